/- Walks of the codec: numbers of bytes. -/
import Derived.Test.YthakgknamfopcaaText
import Derived.Test.YthakgknamfopcaaLvNum
namespace Go.Proofs.Ythakgknamfopcaa
open Go Go.Lv
set_option linter.unusedVariables false
set_option maxRecDepth 100000

/-- The value is a slice of these bytes. -/
abbrev BV (H : LH) (v : LV) (bs : List UInt8) : Prop := SV H 1 v bs.length (bytesL bs)
/-- Of one's own, to be grown. -/
abbrev OB (H : LH) (v : LV) (bs : List UInt8) : Prop := Lv.Own H 1 5 v bs.length (bytesL bs)
theorem OB.bv {H : LH} {v : LV} {bs : List UInt8} (h : OB H v bs) : BV H v bs := h.sv
theorem BV.slice {H : LH} {v : LV} {bs : List UInt8} (h : BV H v bs) {t e : Nat} [hu : TUnd Try.prog t (.slice e)] [hs : TSize Try.prog e 1] {lo hi : Option LV} {l r : Nat} (hl : boundO lo 0 = some l) (hr : boundO hi bs.length = some r) (h1 : l ≤ r) (h2 : r ≤ bs.length) :
    ∃ v', sliceL Try.prog H t v lo hi none = some v' ∧ BV H v' ((bs.drop l).take (r - l)) ∧ (∀ i, v'.bid? = some i → v.bid? = some i) := by
  obtain ⟨v', g1, g2, g3⟩ := SV.slice (P := Try.prog) (t := t) (by omega) h hl hr h1 h2
  refine ⟨v', g1, ?_, g3⟩
  have e1 : ((bs.drop l).take (r - l)).length = r - l := by simp; omega
  unfold BV
  rw [e1]
  have e2 : bytesL ((bs.drop l).take (r - l)) = ((bytesL bs).drop (l * 1)).take ((r - l) * 1) := by simp [bytesL]
  rw [e2]; exact g2
theorem OB.append {H : LH} {v x : LV} {bs xs : List UInt8} (h : OB H v bs) (hx : BV H x xs) (hl : bs.length + xs.length ≤ 70000000000000) :
    ∃ v' H', builtinL Try.prog H .append [22, 22] [v, x] = some (.val v' H') ∧ OB H' v' (bs ++ xs) ∧ Ext H H' (fun i => v.bid? = some i) ∧ (∀ i, v'.bid? = some i → v.bid? = some i ∨ H.next ≤ i) := by
  obtain ⟨v', H', g1, g2, g3⟩ := Lv.Own.append (P := Try.prog) (t := 22) (t' := 22) (sz := 1) (by omega) (by omega) rfl h hx (bytesL_one _) (by unfold growMax; omega)
  refine ⟨v', H', g1, ?_, g3⟩
  unfold OB
  rw [bytesL_append, List.length_append]; exact g2
theorem BV.one (H : LH) (b : UInt8) (v : Int) (hv : v = b.toNat) : BV (H.new (.cells [.int .u8 v] 5 true false)) (.slice (some (H.next, 0)) 1 (.ex 1)) [b] := by
  subst hv
  exact SV.new (n := 1) (sz := 1) (cs := [.int .u8 b.toNat]) (Nat.le_refl _) (by simp)

/-! ### GetUint -/
def gu : List UInt8 → Nat → Nat → Option (Nat × Nat)
  | [], _, _ => none
  | c :: r, i, x => if 10 ≤ i ∨ i = 9 ∧ 1 < c.toNat ∨ c.toNat = 0 ∧ 0 < i then none
    else if c.toNat < 128 then some (x + c.toNat * 128 ^ i, i + 1) else gu r (i + 1) (x + (c.toNat % 128) * 128 ^ i)
/-- The number at the beginning of some bytes, and how many bytes it has. -/
def getU (bs : List UInt8) : Option (Nat × Nat) := gu bs 0 0
def getUV : Option (Nat × Nat) → LV
  | some (x, n) => .tuple [.int .u64 x, .int .i64 n, .int .i64 0]
  | none => .tuple [.int .u64 0, .int .i64 0, .int .i64 15]
theorem pow128 (i : Nat) : 128 ^ i = 2 ^ (7 * i) := by rw [Nat.pow_mul]
theorem gu_spec : ∀ (bs : List UInt8) (i x y n : Nat), x < 128 ^ i → gu bs i x = some (y, n) → y < 2 ^ 64 ∧ i < n ∧ n ≤ i + bs.length ∧ n ≤ 10
  | [], i, x, y, n, _, h => by cases h
  | c :: r, i, x, y, n, hx, h => by
    unfold gu at h
    have hc := UInt8.toNat_lt c
    split at h
    · cases h
    · rename_i h1
      have hi : i < 10 := by omega
      split at h
      · cases h
        refine ⟨?_, by omega, by simp only [List.length_cons]; omega, by omega⟩
        by_cases h9 : i = 9
        · subst h9
          have : (c.toNat) * 128 ^ 9 ≤ 1 * 128 ^ 9 := Nat.mul_le_mul_right _ (by omega)
          omega
        · have h8 : 128 ^ (i + 1) ≤ 128 ^ 9 := Nat.pow_le_pow_right (by omega) (by omega)
          have : c.toNat * 128 ^ i ≤ 127 * 128 ^ i := Nat.mul_le_mul_right _ (by omega)
          rw [Nat.pow_succ] at h8
          omega
      · have hx' : x + (c.toNat % 128) * 128 ^ i < 128 ^ (i + 1) := by
          have : (c.toNat % 128) * 128 ^ i ≤ 127 * 128 ^ i := Nat.mul_le_mul_right _ (by omega)
          rw [Nat.pow_succ]; omega
        have := gu_spec r (i + 1) _ y n hx' h
        refine ⟨this.1, by omega, by simp; omega, this.2.2.2⟩
theorem getU_spec {bs : List UInt8} {y n : Nat} (h : getU bs = some (y, n)) : y < 2 ^ 64 ∧ 0 < n ∧ n ≤ bs.length := by
  have := gu_spec bs 0 0 y n (by simp) h
  exact ⟨this.1, this.2.1, by omega⟩

/-- One byte's step of the program is the step of numbers. -/
theorem gu_step {x c i : Nat} (hx : x < 128 ^ i) (hc : c < 256) (hi : i < 10) (h9 : ¬ (i = 9 ∧ 1 < c)) :
    bitI .or .u64 x (IntKind.u64.wrap (IntKind.u64.wrap (bitI .and .u8 c 127) * 2 ^ (min (7 * (i : Int)).toNat 64))) = ((x + (c % 128) * 128 ^ i : Nat) : Int) := by
  have e1 : bitI .and .u8 (c : Int) 127 = ((c % 128 : Nat) : Int) := by
    have := bit_and (k := .u8) rfl (a := c) (b := 127) hc (by decide)
    rw [show ((127 : Nat) : Int) = 127 from rfl] at this
    rw [this, and_127]
  have hlt : (c % 128) * 2 ^ (7 * i) < 2 ^ 64 := by
    by_cases h : i = 9
    · subst h
      have : (c % 128) * 2 ^ (7 * 9) ≤ 1 * 2 ^ (7 * 9) := Nat.mul_le_mul_right _ (by omega)
      omega
    · have : (c % 128) * 2 ^ (7 * i) ≤ 127 * 2 ^ (7 * i) := Nat.mul_le_mul_right _ (by omega)
      have : 2 ^ (7 * i) ≤ 2 ^ 56 := Nat.pow_le_pow_right (by omega) (by omega)
      omega
  have hx64 : x < 2 ^ 64 := by
    have : 128 ^ i ≤ 128 ^ 9 := Nat.pow_le_pow_right (by omega) (by omega)
    omega
  rw [e1, wrap_u64 (x := ((c % 128 : Nat) : Int)) (by omega) (by omega)]
  have e2 := shl_nat (k := .u64) rfl (a := c % 128) (n := 7 * (i : Int)) (m := 7 * i) (by omega) (by show _ ≤ 64; omega) hlt
  rw [show IntKind.u64.bits = 64 from rfl] at e2
  rw [e2, bit_or (k := .u64) rfl hx64 hlt, or_shift (by rw [← pow128]; exact hx), pow128]

set_option maxHeartbeats 4000000 in
theorem getUint (H : LH) (b : LV) (bs : List UInt8) (hb : BV H b bs) : CallP Try.prog 18 [b] H (fun o H' => H' = H ∧ o = .ret (getUV (getU bs))) := by
  refine en18 (by simp) ?_
  unfold c18
  refine WP.seq ?_
  refine WP.region rfl ?_
  refine WS.val rfl (LK.assign rfl) ?_
  refine WS.val rfl (LK.assign rfl) ?_
  refine WS.val rfl (LK.assign rfl) ?_
  refine WS.nil ?_
  refine WP.seq ?_
  refine WP.region rfl ?_
  refine WS.val rfl (LK.assign rfl) ?_
  refine WS.nil ?_
  refine WP.seq ?_
  refine WP.seq ?_
  refine WP.region rfl ?_
  refine WS.val rfl (LK.move rfl) ?_
  refine WS.val rfl (SV.len hb rfl) ?_
  refine WS.val rfl (LK.min rfl rfl) ?_
  refine WS.val rfl (LK.move rfl) ?_
  refine WS.nil ?_
  refine WP.sub (gs := [(11, _), (10, _), (5, _), (4, _), (3, _), (2, _), (0, _)]) ?_ ⟨rfl, rfl, rfl, rfl, rfl, rfl, rfl, trivial⟩
  refine WP.block ?_
  refine WP.loop ?_
  skip
  generalize hm : (if (10 : Int) < bs.length then (10 : Int) else bs.length) = m
  have hm1 : m ≤ 10 ∧ m ≤ bs.length ∧ (m = 10 ∨ m = bs.length) := by split at hm <;> omega
  refine WP.sub (gs := [(0, b), (5, .int .u64 0), (10, .int .i64 m), (11, .int .i64 ((0 : Nat) : Int))]) ?_ ⟨rfl, rfl, rfl, rfl, trivial⟩
  refine WP.inv (fun n g H' => ∃ (i x : Nat), n = 10 - i ∧ H' = H ∧ g = [(0, b), (5, .int .u64 (x : Int)), (10, .int .i64 m), (11, .int .i64 (i : Int))] ∧ getU bs = gu (bs.drop i) i x ∧ i ≤ 10 ∧ x < 128 ^ i) (n := 10) ⟨0, 0, rfl, rfl, rfl, rfl, by omega, by simp⟩ ?_
  rintro n g H' ⟨i, x, rfl, rfl, rfl, hg, hi10, hx⟩ ih
  have hw : IntKind.i64.wrap ((i : Int) + 1) = ((i + 1 : Nat) : Int) := by rw [wrap_i64 (by omega) (by omega)]; rfl
  have hw7 : IntKind.i64.wrap (7 * (i : Int)) = 7 * (i : Int) := wrap_i64 (by omega) (by omega)
  by_cases hlt : (i : Int) < m
  · have hi : i < bs.length := by omega
    obtain ⟨bi, off, c, cs, e, own, opn, hbv, _, h2, h3⟩ := hb.at1 hi
    rw [bytesL_get hi] at h3
    rw [List.drop_eq_getElem_cons hi] at hg
    have hget : bs[i] = bs.getD i 0 := by simp [List.getD, hi]
    rw [hget] at hg
    unfold gu at hg
    generalize hc : (bs.getD i 0).toNat = cc at *
    have hcc : cc < 256 := by rw [← hc]; exact UInt8.toNat_lt _
    have h7 : (0 : Int) ≤ IntKind.i64.wrap (7 * (i : Int)) := by rw [hw7]; omega
    refine WP.seq ?_
    refine WP.region rfl ?_
    refine WS.val rfl (LK.lss rfl rfl) ?_
    refine WS.nil ?_
    refine WP.seq ?_
    refine WP.cond rfl (fun h12 => ?_) (fun h12 => ?_)
    rotate_left
    · first | (exfalso; have := of_decide_eq_false h12; omega) | cases h12
    refine WP.skip ?_
    refine WP.seq ?_
    refine WP.block ?_
    refine WP.seq ?_
    refine WP.region rfl ?_
    refine WS.val rfl (LK.move rfl) ?_
    refine WS.val rfl (LK.assign rfl) ?_
    refine WS.nil ?_
    refine WP.seq ?_
    refine WP.region rfl ?_
    refine WS.val rfl (LK.move rfl) ?_
    refine WS.val rfl (LK.move rfl) ?_
    refine WS.val rfl (LK.indexAddr (congrArg some hbv) rfl natOf_cast hi) ?_
    refine WS.val rfl (LK.load rfl h2 h3) ?_
    refine WS.val rfl (LK.assign rfl) ?_
    refine WS.nil ?_
    refine WP.seq ?_
    refine WP.seq ?_
    refine WP.region rfl ?_
    refine WS.val rfl (LK.move rfl) ?_
    refine WS.val rfl (LK.eql rfl rfl) ?_
    refine WS.val rfl (LK.move rfl) ?_
    first | refine WS.val rfl (LK.move rfl) ?_ | refine WS.no rfl ?_ | (refine WS.guard rfl (fun h20 => ?_) (fun h20 => ?_) <;> first | refine WS.val rfl (LK.move rfl) ?_ | refine WS.no rfl ?_)
    all_goals first | refine WS.val rfl (LK.gtr rfl rfl) ?_ | refine WS.no rfl ?_
    all_goals first | refine WS.val rfl (LK.pick_t rfl rfl) ?_ | refine WS.val rfl (LK.pick_f rfl rfl) ?_
    all_goals (refine WS.val rfl (LK.move rfl) ?_)
    all_goals first | refine WS.val rfl (LK.move rfl) ?_ | refine WS.no rfl ?_ | (refine WS.guard rfl (fun h24 => ?_) (fun h24 => ?_) <;> first | refine WS.val rfl (LK.move rfl) ?_ | refine WS.no rfl ?_)
    all_goals first | refine WS.val rfl (LK.eql rfl rfl) ?_ | refine WS.no rfl ?_
    all_goals first | refine WS.val rfl (LK.move rfl) ?_ | refine WS.no rfl ?_
    all_goals first | refine WS.val rfl (LK.move rfl) ?_ | refine WS.no rfl ?_ | (refine WS.guard rfl (fun h27 => ?_) (fun h27 => ?_) <;> first | refine WS.val rfl (LK.move rfl) ?_ | refine WS.no rfl ?_)
    all_goals first | refine WS.val rfl (LK.gtr rfl rfl) ?_ | refine WS.no rfl ?_
    all_goals first | refine WS.val rfl (LK.pick_t rfl rfl) ?_ | refine WS.val rfl (LK.pick_f rfl rfl) ?_ | refine WS.no rfl ?_
    all_goals first | refine WS.val rfl (LK.pick_t rfl rfl) ?_ | refine WS.val rfl (LK.pick_f rfl rfl) ?_
    all_goals
     refine WS.nil ?_
     refine WP.cond rfl (fun h31 => ?_) (fun h31 => ?_)
     · first
        | ((first | (exfalso; have := of_decide_eq_false h31; omega) | cases h31); done)
        | skip
          refine WP.exit rfl ?_
          refine WP.seq ?_
          refine WP.region rfl ?_
          refine WS.val rfl (LK.assign rfl) ?_
          refine WS.val rfl (LK.assign rfl) ?_
          refine WS.val rfl (LK.assign rfl) ?_
          refine WS.nil ?_
          refine WP.sub (gs := [(4, _), (3, _), (2, _)]) ?_ ⟨rfl, rfl, rfl, trivial⟩
          simp only [beq_iff_eq, decide_eq_true_eq, decide_eq_false_iff_not, Bool.not_true, Bool.not_false, beq_eq_false_iff_ne, ne_eq] at *
          first
            | contradiction
            | (refine WP.ret rfl (Fin.ret' rfl rfl ⟨rfl, ?_⟩)
               refine congrArg LOut.ret ?_
               rw [hg]
               first
                 | rw [if_pos (by omega)]; rfl
                 | (rw [if_neg (by omega), if_pos (by omega)]
                    have hst := gu_step (c := cc) hx hcc (by omega) (by omega)
                    simp only [getUV, hw, hw7]
                    rw [show IntKind.u64.bits = 64 from rfl, hst]
                    rw [Nat.mod_eq_of_lt (by omega : cc < 128)]
                    rfl))
     first
      | ((first | (exfalso; have := of_decide_eq_false h31; omega) | cases h31); done)
      | skip
        refine WP.skip ?_
        refine WP.seq ?_
        refine WP.region rfl ?_
        refine WS.val rfl (LK.move rfl) ?_
        refine WS.val rfl (LK.move rfl) ?_
        refine WS.val rfl (LK.and rfl rfl) ?_
        refine WS.val rfl (LK.conv_int rfl) ?_
        refine WS.val rfl (LK.move rfl) ?_
        refine WS.val rfl (LK.mul rfl rfl) ?_
        refine WS.val rfl (LK.shl rfl rfl h7) ?_
        refine WS.val rfl (LK.or rfl rfl) ?_
        refine WS.val rfl (LK.assign rfl) ?_
        refine WS.nil ?_
        refine WP.seq ?_
        refine WP.region rfl ?_
        refine WS.val rfl (LK.move rfl) ?_
        refine WS.val rfl (LK.lss rfl rfl) ?_
        refine WS.nil ?_
        refine WP.cond rfl (fun h41 => ?_) (fun h41 => ?_)
        · skip
          refine WP.seq ?_
          refine WP.region rfl ?_
          refine WS.val rfl (LK.move rfl) ?_
          refine WS.val rfl (LK.move rfl) ?_
          refine WS.val rfl (LK.add rfl rfl) ?_
          refine WS.val rfl (LK.assign rfl) ?_
          refine WS.val rfl (LK.assign rfl) ?_
          refine WS.val rfl (LK.assign rfl) ?_
          refine WS.nil ?_
          simp only [beq_iff_eq, decide_eq_true_eq, decide_eq_false_iff_not, Bool.not_true, Bool.not_false, beq_eq_false_iff_ne, ne_eq] at *
          first
            | contradiction
            | (refine WP.ret rfl (Fin.ret' rfl rfl ⟨rfl, ?_⟩)
               refine congrArg LOut.ret ?_
               rw [hg]
               first
                 | rw [if_pos (by omega)]; rfl
                 | (rw [if_neg (by omega), if_pos (by omega)]
                    have hst := gu_step (c := cc) hx hcc (by omega) (by omega)
                    simp only [getUV, hw, hw7]
                    rw [show IntKind.u64.bits = 64 from rfl, hst]
                    rw [Nat.mod_eq_of_lt (by omega : cc < 128)]
                    rfl))
        refine WP.skip ?_
        refine WP.inBlock ?_
        refine WP.region rfl ?_
        refine WS.val rfl (LK.add rfl rfl) ?_
        refine WS.val rfl (LK.move rfl) ?_
        refine WS.nil ?_
        simp only [beq_iff_eq, decide_eq_true_eq, decide_eq_false_iff_not, Bool.not_true, Bool.not_false, beq_eq_false_iff_ne, ne_eq] at *
        first
          | contradiction
          | (rw [if_neg (by omega), if_neg (by omega)] at hg
             have hst := gu_step (c := cc) hx hcc (by omega) (by omega)
             have hlt' : x + (cc % 128) * 128 ^ i < 128 ^ (i + 1) := by
               have : (cc % 128) * 128 ^ i ≤ 127 * 128 ^ i := Nat.mul_le_mul_right _ (by omega)
               rw [Nat.pow_succ]; omega
             refine WP.sub (gs := [(0, b), (5, .int .u64 ((x + (cc % 128) * 128 ^ i : Nat) : Int)), (10, .int .i64 m), (11, .int .i64 ((i + 1 : Nat) : Int))]) (ih (10 - (i + 1)) _ _ (by omega) ⟨i + 1, _, rfl, rfl, rfl, hg, by omega, hlt'⟩) ⟨rfl, ?_, rfl, by rw [← hw]; rfl, trivial⟩
             show some (LV.int .u64 _) = _
             simp only [hw7]
             rw [show IntKind.u64.bits = 64 from rfl, hst])
  · have hm2 : ¬ ((i : Int) < m) := hlt
    have hg' : getU bs = none := by
      rw [hg]
      cases hd : bs.drop i with
      | nil => rfl
      | cons c r =>
        have : i < bs.length := by
          have := congrArg List.length hd
          simp at this; omega
        unfold gu
        rw [if_pos (by omega)]
    refine WP.seq ?_
    refine WP.region rfl ?_
    refine WS.val rfl (LK.lss rfl rfl) ?_
    refine WS.nil ?_
    refine WP.seq ?_
    refine WP.cond rfl (fun h12 => ?_) (fun h12 => ?_)
    · exfalso; have := of_decide_eq_true h12; omega
    refine WP.exit rfl ?_
    refine WP.seq ?_
    refine WP.region rfl ?_
    refine WS.val rfl (LK.assign rfl) ?_
    refine WS.val rfl (LK.assign rfl) ?_
    refine WS.val rfl (LK.assign rfl) ?_
    refine WS.nil ?_
    refine WP.sub (gs := [(4, _), (3, _), (2, _)]) ?_ ⟨rfl, rfl, rfl, trivial⟩
    exact WP.ret rfl (Fin.ret' rfl rfl ⟨rfl, by rw [hg']; rfl⟩)

/-! ### uvarint -/
def encU (x : Nat) : List UInt8 := if h : x < 128 then [UInt8.ofNat x] else UInt8.ofNat (x % 128 + 128) :: encU (x / 128)
  termination_by x
theorem or_128 (y : Nat) (hy : y < 256) : y ||| 128 = y % 128 + 128 := by
  have : ∀ z : Fin 256, z.val ||| 128 = z.val % 128 + 128 := by decide
  exact this ⟨y, hy⟩
theorem wrap_u8' (x : Nat) : IntKind.u8.wrap (x : Int) = ((x % 256 : Nat) : Int) := wrap_un_mod rfl x
theorem bit_or_128 (x : Nat) : bitI .or .u8 (IntKind.u8.wrap (x : Int)) 128 = ((UInt8.ofNat (x % 128 + 128)).toNat : Int) := by
  rw [wrap_u8']
  have := bit_or (k := .u8) rfl (a := x % 256) (b := 128) (Nat.mod_lt _ (by decide)) (by decide)
  rw [show ((128 : Nat) : Int) = 128 from rfl] at this
  rw [this, or_128 _ (Nat.mod_lt _ (by decide))]
  simp
  omega
theorem encU_len : ∀ (n x : Nat), x < 128 ^ (n + 1) → (encU x).length ≤ n + 1
  | 0, x, h => by
    rw [encU, dif_pos (by simpa using h)]; simp
  | n + 1, x, h => by
    rw [encU]
    split
    · simp
    · have := encU_len n (x / 128) (by rw [Nat.pow_succ] at h; omega)
      simp; omega
theorem encU_len10 {x : Nat} (hx : x < 2 ^ 64) : (encU x).length ≤ 10 := encU_len 9 x (Nat.lt_of_lt_of_le hx (by decide))
theorem encU_pos (x : Nat) : 0 < (encU x).length := by
  rw [encU]; split <;> simp
set_option maxHeartbeats 4000000 in
theorem uvarint (H : LH) (v : LV) (bs : List UInt8) (x : Nat) (h : OB H v bs) (hx : x < 2 ^ 64) (hl : bs.length < 50000000000000) :
    CallP Try.prog 34 [v, .int .u64 x] H (fun o H' => ∃ v', o = .ret v' ∧ OB H' v' (bs ++ encU x) ∧ Ext H H' (fun i => v.bid? = some i) ∧ ∀ i, v'.bid? = some i → v.bid? = some i ∨ H.next ≤ i) := by
  refine en34 (by simp) ?_
  unfold c34
  have hx10 : (encU x).length ≤ 10 := encU_len10 hx
  refine WP.seq ?_
  refine WP.region rfl ?_
  refine WS.val rfl (LK.assign rfl) ?_
  refine WS.nil ?_
  refine WP.seq ?_
  refine WP.block ?_
  refine WP.loop ?_
  skip
  refine WP.sub (gs := [(0, v), (1, .int .u64 ((x : Nat) : Int))]) ?_ ⟨rfl, rfl, trivial⟩
  refine WP.inv (fun n g H' => ∃ (y : Nat) (v' : LV) (bs' : List UInt8), n = y ∧ g = [(0, v'), (1, .int .u64 (y : Int))] ∧ OB H' v' bs' ∧ bs ++ encU x = bs' ++ encU y ∧ bs'.length + (encU y).length ≤ 50000000000010 ∧ Ext H H' (fun i => v.bid? = some i) ∧ (∀ i, v'.bid? = some i → v.bid? = some i ∨ H.next ≤ i) ∧ y < 2 ^ 64) (n := x)
    ⟨x, v, bs, rfl, rfl, h, rfl, by omega, Ext.refl _ _, fun i hi => .inl hi, hx⟩ ?_
  rintro y g H' ⟨_, v', bs', rfl, rfl, hO, he, hle, hE, hB, hy⟩ ih
  have hEn := hE.next
  by_cases hc : y < 128
  · have h128 : encU y = [UInt8.ofNat y] := by rw [encU, dif_pos hc]
    rw [h128] at he
    have hby : IntKind.u8.wrap (y : Int) = ((UInt8.ofNat y).toNat : Int) := by rw [wrap_u8']; simp
    have hO1 := hO.new (.cells [.int .u8 (IntKind.u8.wrap (y : Int))] 5 true false)
    obtain ⟨v2, H2, ha, hO2, hE2, hB2⟩ := OB.append hO1 (BV.one H' (UInt8.ofNat y) _ hby) (by simp; omega)
    refine WP.seq ?_
    refine WP.seq ?_
    refine WP.region rfl ?_
    refine WS.val rfl (LK.move rfl) ?_
    refine WS.val rfl (LK.geq rfl rfl) ?_
    refine WS.nil ?_
    refine WP.cond rfl (fun h6 => ?_) (fun h6 => ?_)
    · exfalso; have := of_decide_eq_true h6; omega
    refine WP.exit rfl ?_
    refine WP.seq ?_
    refine WP.region rfl ?_
    refine WS.val rfl (LK.move rfl) ?_
    refine WS.val rfl (LK.move rfl) ?_
    refine WS.val rfl (LK.conv_int rfl) ?_
    refine WS.val rfl (LK.buildSlice rfl rfl rfl) ?_
    refine WS.val rfl (LK.builtin rfl ha) ?_
    refine WS.val rfl (LK.assign rfl) ?_
    refine WS.nil ?_
    refine WP.sub (gs := [(4, _)]) ?_ ⟨rfl, trivial⟩
    exact WP.ret rfl (Fin.ret' rfl rfl ⟨v2, rfl, by rw [he]; exact hO2, (hE.new _).trans hE2 (fun i hi hw => (hB i hw).elim id (fun h => by omega)), fun i hi => (hB2 i hi).elim (fun h => hB i h) (fun h => .inr (by simp at h; omega))⟩)
  · have h128 : encU y = UInt8.ofNat (y % 128 + 128) :: encU (y / 128) := by rw [encU, dif_neg hc]
    rw [h128] at he hle
    simp only [List.length_cons] at hle
    have hO1 := hO.new (.cells [.int .u8 (bitI .or .u8 (IntKind.u8.wrap (y : Int)) 128)] 5 true false)
    obtain ⟨v2, H2, ha, hO2, hE2, hB2⟩ := OB.append hO1 (BV.one H' (UInt8.ofNat (y % 128 + 128)) _ (bit_or_128 y)) (by simp; omega)
    have hs7 : ((y : Int)).fdiv (2 ^ (min (7 : Int).toNat IntKind.u64.bits)) = ((y / 128 : Nat) : Int) := by
      rw [shr_nat (k := .u64) y (n := 7) (m := 7) rfl (by decide)]
    refine WP.seq ?_
    refine WP.seq ?_
    refine WP.region rfl ?_
    refine WS.val rfl (LK.move rfl) ?_
    refine WS.val rfl (LK.geq rfl rfl) ?_
    refine WS.nil ?_
    refine WP.cond rfl (fun h6 => ?_) (fun h6 => ?_)
    rotate_left
    · exfalso; have := of_decide_eq_false h6; omega
    refine WP.skip ?_
    refine WP.seq ?_
    refine WP.block ?_
    refine WP.region rfl ?_
    refine WS.val rfl (LK.move rfl) ?_
    refine WS.val rfl (LK.move rfl) ?_
    refine WS.val rfl (LK.conv_int rfl) ?_
    refine WS.val rfl (LK.or rfl rfl) ?_
    refine WS.val rfl (LK.buildSlice rfl rfl rfl) ?_
    refine WS.val rfl (LK.builtin rfl ha) ?_
    refine WS.val rfl (LK.assign rfl) ?_
    refine WS.nil ?_
    refine WP.inBlock ?_
    refine WP.region rfl ?_
    refine WS.val rfl (LK.move rfl) ?_
    refine WS.val rfl (LK.shr rfl rfl (by decide)) ?_
    refine WS.val rfl (LK.assign rfl) ?_
    refine WS.nil ?_
    refine WP.sub (gs := [(0, v2), (1, .int .u64 ((y / 128 : Nat) : Int))]) (ih (y / 128) _ _ (by omega) ⟨y / 128, v2, _, rfl, rfl, hO2, ?_, ?_, ?_, ?_, by omega⟩) ⟨rfl, by rw [← hs7]; rfl, trivial⟩
    · rw [he]; simp
    · simp; omega
    · exact (hE.new _).trans hE2 (fun i hi hw => (hB i hw).elim id (fun h => by omega))
    · exact fun i hi => (hB2 i hi).elim (fun h => hB i h) (fun h => .inr (by simp at h; omega))

/-! ### zigzag -/
theorem zigzag (H : LH) (x : Int) (h1 : -9223372036854775808 ≤ x) (h2 : x < 9223372036854775808) : CallP Try.prog 76 [.int .i64 x] H (fun o H' => H' = H ∧ o = .ret (.int .u64 (zzN x : Int))) := by
  refine en76 (by simp) ?_
  unfold c76
  rw [← zz_go h1 h2]
  refine WP.seq ?_
  refine WP.region rfl ?_
  refine WS.val rfl (LK.assign rfl) ?_
  refine WS.nil ?_
  refine WP.seq ?_
  refine WP.region rfl ?_
  refine WS.val rfl (LK.move rfl) ?_
  refine WS.val rfl (LK.conv_int rfl) ?_
  refine WS.val rfl (LK.shl rfl rfl (by decide)) ?_
  refine WS.val rfl (LK.move rfl) ?_
  refine WS.val rfl (LK.shr rfl rfl (by decide)) ?_
  refine WS.val rfl (LK.conv_int rfl) ?_
  refine WS.val rfl (LK.xor rfl rfl) ?_
  refine WS.val rfl (LK.assign rfl) ?_
  refine WS.nil ?_
  refine WP.sub (gs := [(2, _)]) ?_ ⟨rfl, trivial⟩
  exact WP.ret rfl (Fin.ret' rfl rfl ⟨rfl, rfl⟩)
inductive Vk where | id | num | draws | bounds
  deriving DecidableEq
/-- The fields of a kind of command, and where they lie. -/
def vis (op : Int) : Option (List (Vk × Nat)) :=
  if op = 1 then some [(.id, 1), (.id, 2), (.num, 3), (.num, 4)]
  else if op = 2 then some [(.num, 4)]
  else if op = 3 ∨ op = 8 then some [(.id, 1), (.id, 2)]
  else if op = 4 then some [(.id, 1)]
  else if op = 5 ∨ op = 9 ∨ op = 10 ∨ op = 13 ∨ op = 14 ∨ op = 15 then some []
  else if op = 6 then some [(.id, 1), (.num, 3)]
  else if op = 7 then some [(.num, 3)]
  else if op = 11 then some [(.draws, 5)]
  else if op = 12 then some [(.num, 3), (.bounds, 6)]
  else none

structure Visitor (T : Nat) (w : LV) (cb : Nat) where
  f : Vk → Nat
  I : (Nat → Prop) → List (Vk × Nat) → LH → Prop
  Rp : LV → LH → Prop
  m1 : ∀ H, methodL Try.prog H T w "seepage/codec.id" = some (f .id, w)
  m2 : ∀ H, methodL Try.prog H T w "seepage/codec.num" = some (f .num, w)
  m3 : ∀ H, methodL Try.prog H T w "seepage/codec.draws" = some (f .draws, w)
  m4 : ∀ H, methodL Try.prog H T w "seepage/codec.bounds" = some (f .bounds, w)
  s2 : methodStands Try.prog T w "seepage/codec.num" = true
  s3 : methodStands Try.prog T w "seepage/codec.draws" = true
  s4 : methodStands Try.prog T w "seepage/codec.bounds" = true
  ent : ∀ k, Ent Try.prog (f k)
  stable : ∀ {pr l H} o, I pr l H → I (fun i => pr i ∨ i = H.next) l (H.new o)
  less : ∀ {pr pr' : Nat → Prop} {l H}, I pr l H → (∀ i, pr' i → pr i) → I pr' l H
  step : ∀ {pr k off l H}, I pr ((k, off) :: l) H → CallP Try.prog (f k) [w, .ptr (some (cb, off))] H
    (fun o H' => (o = .ret (.tuple []) ∧ I pr l H' ∧ H.next ≤ H'.next ∧ ∀ i, pr i → i < H.next → H'.get i = H.get i) ∨ ∃ p, o = .panic p ∧ Rp p H')

section
variable {T : Nat} {w : LV} {cb : Nat} (V : Visitor T w cb)

/-- A visit, while a block is kept. -/
theorem Visitor.stepB {k : Vk} {off : Nat} {l : List (Vk × Nat)} {H : LH} {b3 : Nat} {X : LO} (hI : V.I (fun i => i = b3) ((k, off) :: l) H) (hb : b3 < H.next) (hX : H.get b3 = some X) :
    CallP Try.prog (V.f k) [w, .ptr (some (cb, off))] H (fun o H' => (o = .ret (.tuple []) ∧ V.I (fun i => i = b3) l H' ∧ b3 < H'.next ∧ H'.get b3 = some X) ∨ ∃ p, o = .panic p ∧ V.Rp p H') := by
  refine (V.step hI).mono fun o H' h => ?_
  rcases h with ⟨h1, h2, h3, h4⟩ | h
  · exact .inl ⟨h1, h2, by omega, by rw [h4 b3 rfl hb]; exact hX⟩
  · exact .inr h

set_option maxHeartbeats 4000000 in
/-- fields$1: some ids. -/
theorem ids : ∀ (offs : List Nat) (l : List (Vk × Nat)) (H : LH) (b3 : Nat) (hI : V.I (fun i => i = b3) (offs.map (fun o => (Vk.id, o)) ++ l) H) (hb : b3 < H.next) (hX : H.get b3 = some (.cells [.iface T w] 88 true false)) (hl : offs.length ≤ 10),
    CallP Try.prog 46 [.slice (some (H.next, 0)) offs.length (.ex offs.length), .ptr (some (b3, 0))] (H.new (.cells (offs.map fun o => .ptr (some (cb, o))) 90 true false))
      (fun o H' => (o = .ret (.tuple []) ∧ V.I (fun i => i = b3) l H' ∧ b3 < H'.next ∧ H'.get b3 = some (.cells [.iface T w] 88 true false)) ∨ ∃ p, o = .panic p ∧ V.Rp p H') := by
  intro offs l H b3 hI hb hX hl
  refine en46 (by simp) ?_
  unfold c46
  generalize hH1 : H.new (.cells (offs.map fun o => .ptr (some (cb, o))) 90 true false) = H1
  generalize hsb : H.next = sb at *
  have hI1 : V.I (fun i => i = b3 ∨ i = sb) (offs.map (fun o => (Vk.id, o)) ++ l) H1 := by rw [← hH1, ← hsb]; exact V.stable _ hI
  have hn1 : H1.next = sb + 1 := by rw [← hH1, ← hsb]; rfl
  have hg1 : H1.get sb = some (.cells (offs.map fun o => .ptr (some (cb, o))) 90 true false) := by rw [← hH1, ← hsb]; exact get_new_self
  have hb1 : H1.get b3 = some (.cells [.iface T w] 88 true false) := by rw [← hH1, get_new_old (by omega)]; exact hX
  have hne : b3 ≠ sb := by omega
  repeat' (first | refine WP.seq ?_ | refine WP.region rfl ?_ | refine WP.draw rfl ?_ | refine WP.conf rfl ?_ | refine WP.skip ?_ | refine WP.inBlock ?_ | refine WP.inScope ?_ | refine WP.block ?_ | refine WP.exit rfl ?_ | refine WS.nil ?_ | refine WD.nil ?_ | refine WC.nil ?_ | refine WP.loop ?_ | refine WS.val rfl (LK.move rfl) ?_ | refine WS.val rfl (LK.assign rfl) ?_ | refine WS.val rfl (LK.nilCheck_ptr rfl) ?_ | refine WS.val rfl (LK.add rfl rfl) ?_ | refine WS.val rfl (LK.sub rfl rfl) ?_ | refine WS.val rfl (LK.mul rfl rfl) ?_ | refine WS.val rfl (LK.eql rfl rfl) ?_ | refine WS.val rfl (LK.neq rfl rfl) ?_ | refine WS.val rfl (LK.lss rfl rfl) ?_ | refine WS.val rfl (LK.leq rfl rfl) ?_ | refine WS.val rfl (LK.gtr rfl rfl) ?_ | refine WS.val rfl (LK.geq rfl rfl) ?_ | refine WS.val rfl (LK.and rfl rfl) ?_ | refine WS.val rfl (LK.or rfl rfl) ?_ | refine WS.val rfl (LK.xor rfl rfl) ?_ | refine WS.val rfl (LK.not rfl) ?_ | refine WS.val rfl (LK.pick_t rfl rfl) ?_ | refine WS.val rfl (LK.pick_f rfl rfl) ?_ | refine WS.val rfl (LK.pick rfl rfl rfl) ?_ | refine WS.val rfl (LK.min rfl rfl) ?_ | refine WS.val rfl (LK.max rfl rfl) ?_ | refine WS.val rfl (LK.conv_int rfl) ?_ | refine WS.val rfl (LK.extract rfl rfl) ?_ | refine WS.val rfl (LK.alloc) ?_ | refine WS.val rfl (LK.makeInterface rfl) ?_ | refine WS.val rfl (LK.len rfl) ?_ | refine WS.val rfl (LK.fieldAddr rfl rfl) ?_ | refine WS.val rfl (LK.makeFunc rfl rfl) ?_ | refine WS.val rfl (LK.makeMeth rfl rfl) ?_ | refine WS.val rfl (LK.box rfl rfl) ?_ | refine WS.val rfl (LK.shl rfl rfl (by decide)) ?_ | refine WS.val rfl (LK.shr rfl rfl (by decide)) ?_ | refine WS.val rfl (LK.compl rfl) ?_ | refine WS.val rfl (LK.neg rfl) ?_ | refine WS.val rfl (LK.nilCheck_func rfl) ?_ | refine WS.val rfl (LK.nilCheck_yield rfl) ?_ | refine WS.val rfl (LK.nilCheck_iface rfl) ?_ | refine WS.val rfl (LK.build_s rfl rfl) ?_ | refine WD.val rfl (LK.move rfl) ?_ | refine WD.val rfl (LK.assign rfl) ?_ | refine WD.val rfl (LK.nilCheck_ptr rfl) ?_ | refine WD.val rfl (LK.add rfl rfl) ?_ | refine WD.val rfl (LK.sub rfl rfl) ?_ | refine WD.val rfl (LK.mul rfl rfl) ?_ | refine WD.val rfl (LK.eql rfl rfl) ?_ | refine WD.val rfl (LK.neq rfl rfl) ?_ | refine WD.val rfl (LK.lss rfl rfl) ?_ | refine WD.val rfl (LK.leq rfl rfl) ?_ | refine WD.val rfl (LK.gtr rfl rfl) ?_ | refine WD.val rfl (LK.geq rfl rfl) ?_ | refine WD.val rfl (LK.and rfl rfl) ?_ | refine WD.val rfl (LK.or rfl rfl) ?_ | refine WD.val rfl (LK.xor rfl rfl) ?_ | refine WD.val rfl (LK.not rfl) ?_ | refine WD.val rfl (LK.pick_t rfl rfl) ?_ | refine WD.val rfl (LK.pick_f rfl rfl) ?_ | refine WD.val rfl (LK.pick rfl rfl rfl) ?_ | refine WD.val rfl (LK.min rfl rfl) ?_ | refine WD.val rfl (LK.max rfl rfl) ?_ | refine WD.val rfl (LK.conv_int rfl) ?_ | refine WD.val rfl (LK.extract rfl rfl) ?_ | refine WD.val rfl (LK.alloc) ?_ | refine WD.val rfl (LK.makeInterface rfl) ?_ | refine WD.val rfl (LK.len rfl) ?_ | refine WD.val rfl (LK.fieldAddr rfl rfl) ?_ | refine WD.val rfl (LK.makeFunc rfl rfl) ?_ | refine WD.val rfl (LK.makeMeth rfl rfl) ?_ | refine WD.val rfl (LK.box rfl rfl) ?_ | refine WD.val rfl (LK.shl rfl rfl (by decide)) ?_ | refine WD.val rfl (LK.shr rfl rfl (by decide)) ?_ | refine WD.val rfl (LK.compl rfl) ?_ | refine WD.val rfl (LK.neg rfl) ?_ | refine WD.val rfl (LK.nilCheck_func rfl) ?_ | refine WD.val rfl (LK.nilCheck_yield rfl) ?_ | refine WD.val rfl (LK.nilCheck_iface rfl) ?_ | refine WD.val rfl (LK.build_s rfl rfl) ?_ | refine WC.val rfl (LK.move rfl) (fun o h => by simp only [okind, h]; first | exact .inl rfl | exact .inr rfl) ?_ | refine WC.val rfl (LK.assign rfl) (fun o h => by simp only [okind, h]; first | exact .inl rfl | exact .inr rfl) ?_ | refine WC.val rfl (LK.nilCheck_ptr rfl) (fun o h => by simp only [okind, h]; first | exact .inl rfl | exact .inr rfl) ?_ | refine WC.val rfl (LK.add rfl rfl) (fun o h => by simp only [okind, h]; first | exact .inl rfl | exact .inr rfl) ?_ | refine WC.val rfl (LK.sub rfl rfl) (fun o h => by simp only [okind, h]; first | exact .inl rfl | exact .inr rfl) ?_ | refine WC.val rfl (LK.mul rfl rfl) (fun o h => by simp only [okind, h]; first | exact .inl rfl | exact .inr rfl) ?_ | refine WC.val rfl (LK.eql rfl rfl) (fun o h => by simp only [okind, h]; first | exact .inl rfl | exact .inr rfl) ?_ | refine WC.val rfl (LK.neq rfl rfl) (fun o h => by simp only [okind, h]; first | exact .inl rfl | exact .inr rfl) ?_ | refine WC.val rfl (LK.lss rfl rfl) (fun o h => by simp only [okind, h]; first | exact .inl rfl | exact .inr rfl) ?_ | refine WC.val rfl (LK.leq rfl rfl) (fun o h => by simp only [okind, h]; first | exact .inl rfl | exact .inr rfl) ?_ | refine WC.val rfl (LK.gtr rfl rfl) (fun o h => by simp only [okind, h]; first | exact .inl rfl | exact .inr rfl) ?_ | refine WC.val rfl (LK.geq rfl rfl) (fun o h => by simp only [okind, h]; first | exact .inl rfl | exact .inr rfl) ?_ | refine WC.val rfl (LK.and rfl rfl) (fun o h => by simp only [okind, h]; first | exact .inl rfl | exact .inr rfl) ?_ | refine WC.val rfl (LK.or rfl rfl) (fun o h => by simp only [okind, h]; first | exact .inl rfl | exact .inr rfl) ?_ | refine WC.val rfl (LK.xor rfl rfl) (fun o h => by simp only [okind, h]; first | exact .inl rfl | exact .inr rfl) ?_ | refine WC.val rfl (LK.not rfl) (fun o h => by simp only [okind, h]; first | exact .inl rfl | exact .inr rfl) ?_ | refine WC.val rfl (LK.pick_t rfl rfl) (fun o h => by simp only [okind, h]; first | exact .inl rfl | exact .inr rfl) ?_ | refine WC.val rfl (LK.pick_f rfl rfl) (fun o h => by simp only [okind, h]; first | exact .inl rfl | exact .inr rfl) ?_ | refine WC.val rfl (LK.pick rfl rfl rfl) (fun o h => by simp only [okind, h]; first | exact .inl rfl | exact .inr rfl) ?_ | refine WC.val rfl (LK.min rfl rfl) (fun o h => by simp only [okind, h]; first | exact .inl rfl | exact .inr rfl) ?_ | refine WC.val rfl (LK.max rfl rfl) (fun o h => by simp only [okind, h]; first | exact .inl rfl | exact .inr rfl) ?_ | refine WC.val rfl (LK.conv_int rfl) (fun o h => by simp only [okind, h]; first | exact .inl rfl | exact .inr rfl) ?_ | refine WC.val rfl (LK.extract rfl rfl) (fun o h => by simp only [okind, h]; first | exact .inl rfl | exact .inr rfl) ?_ | refine WC.val rfl (LK.alloc) (fun o h => by simp only [okind, h]; first | exact .inl rfl | exact .inr rfl) ?_ | refine WC.val rfl (LK.makeInterface rfl) (fun o h => by simp only [okind, h]; first | exact .inl rfl | exact .inr rfl) ?_ | refine WC.val rfl (LK.len rfl) (fun o h => by simp only [okind, h]; first | exact .inl rfl | exact .inr rfl) ?_ | refine WC.val rfl (LK.fieldAddr rfl rfl) (fun o h => by simp only [okind, h]; first | exact .inl rfl | exact .inr rfl) ?_ | refine WC.val rfl (LK.makeFunc rfl rfl) (fun o h => by simp only [okind, h]; first | exact .inl rfl | exact .inr rfl) ?_ | refine WC.val rfl (LK.makeMeth rfl rfl) (fun o h => by simp only [okind, h]; first | exact .inl rfl | exact .inr rfl) ?_ | refine WC.val rfl (LK.box rfl rfl) (fun o h => by simp only [okind, h]; first | exact .inl rfl | exact .inr rfl) ?_ | refine WC.val rfl (LK.shl rfl rfl (by decide)) (fun o h => by simp only [okind, h]; first | exact .inl rfl | exact .inr rfl) ?_ | refine WC.val rfl (LK.shr rfl rfl (by decide)) (fun o h => by simp only [okind, h]; first | exact .inl rfl | exact .inr rfl) ?_ | refine WC.val rfl (LK.compl rfl) (fun o h => by simp only [okind, h]; first | exact .inl rfl | exact .inr rfl) ?_ | refine WC.val rfl (LK.neg rfl) (fun o h => by simp only [okind, h]; first | exact .inl rfl | exact .inr rfl) ?_ | refine WC.val rfl (LK.nilCheck_func rfl) (fun o h => by simp only [okind, h]; first | exact .inl rfl | exact .inr rfl) ?_ | refine WC.val rfl (LK.nilCheck_yield rfl) (fun o h => by simp only [okind, h]; first | exact .inl rfl | exact .inr rfl) ?_ | refine WC.val rfl (LK.nilCheck_iface rfl) (fun o h => by simp only [okind, h]; first | exact .inl rfl | exact .inr rfl) ?_ | refine WC.val rfl (LK.build_s rfl rfl) (fun o h => by simp only [okind, h]; first | exact .inl rfl | exact .inr rfl) ?_ | refine WS.no rfl ?_ | refine WD.no rfl ?_ | refine WC.no rfl ?_ | refine WP.cond rfl (fun h => ?_) (fun h => ?_) | refine WS.guard rfl (fun h => ?_) (fun h => ?_) | refine WD.guard rfl (fun h => ?_) (fun h => ?_) | refine WC.guard rfl (fun h => ?_) (fun h => ?_))
  refine WP.sub (gs := [(1, .ptr (some (b3, 0))), (5, .slice (some (sb, 0)) offs.length (.ex offs.length)), (6, .int .i64 offs.length), (7, .int .i64 ((0 : Nat) : Int))]) ?_ ⟨rfl, rfl, rfl, rfl, trivial⟩
  refine WP.inv (fun n g H' => ∃ i : Nat, n = offs.length - i ∧ i ≤ offs.length ∧ g = [(1, .ptr (some (b3, 0))), (5, .slice (some (sb, 0)) offs.length (.ex offs.length)), (6, .int .i64 offs.length), (7, .int .i64 (i : Int))] ∧
    V.I (fun i => i = b3 ∨ i = sb) ((offs.drop i).map (fun o => (Vk.id, o)) ++ l) H' ∧ sb < H'.next ∧ H'.get sb = some (.cells (offs.map fun o => .ptr (some (cb, o))) 90 true false) ∧ H'.get b3 = some (.cells [.iface T w] 88 true false)) (n := offs.length) ⟨0, rfl, Nat.zero_le _, rfl, by simpa using hI1, by omega, hg1, hb1⟩ ?_
  rintro n g H' ⟨i, rfl, hi, rfl, hIi, hn', hg', hb'⟩ ih
  by_cases hlt : i < offs.length
  · have hv : (offs.map fun o => LV.ptr (some (cb, o)))[0 + i * 1]? = some (.ptr (some (cb, offs[i]))) := by simp [hlt]
    have hI2 : V.I (fun i => i = b3 ∨ i = sb) ((Vk.id, offs[i]) :: ((offs.drop (i + 1)).map (fun o => (Vk.id, o)) ++ l)) H' := by
      rw [List.drop_eq_getElem_cons hlt] at hIi; exact hIi
    have hent := V.ent .id
    repeat' (first | refine WP.seq ?_ | refine WP.region rfl ?_ | refine WP.draw rfl ?_ | refine WP.conf rfl ?_ | refine WP.skip ?_ | refine WP.inBlock ?_ | refine WP.inScope ?_ | refine WP.block ?_ | refine WP.exit rfl ?_ | refine WS.nil ?_ | refine WD.nil ?_ | refine WC.nil ?_ | refine WP.loop ?_ | refine WS.val rfl (LK.indexAddr rfl rfl natOf_cast hlt) ?_ | refine WD.val rfl (LK.indexAddr rfl rfl natOf_cast hlt) ?_ | refine WS.val rfl (LK.load rfl hg' hv) ?_ | refine WD.val rfl (LK.load rfl hg' hv) ?_ | refine WC.read rfl (LK.load rfl hg' hv) (fun o h => by simp only [okind, h]) (by first | exact trivial | exact ⟨.inl rfl, trivial⟩ | exact ⟨.inl rfl, .inl rfl, trivial⟩ | exact ⟨.inl rfl, .inl rfl, .inl rfl, trivial⟩) ?_ | refine WS.val rfl (LK.load rfl hb' rfl) ?_ | refine WD.val rfl (LK.load rfl hb' rfl) ?_ | refine WC.read rfl (LK.load rfl hb' rfl) (fun o h => by simp only [okind, h]) (by first | exact trivial | exact ⟨.inl rfl, trivial⟩ | exact ⟨.inl rfl, .inl rfl, trivial⟩ | exact ⟨.inl rfl, .inl rfl, .inl rfl, trivial⟩) ?_ | refine WS.call rfl (LK.invoke (he := hent) rfl rfl (V.m1 _) ) (CallP.mono ( V.step hI2) ?_) | refine WD.call rfl (LK.invoke (he := hent) rfl rfl (V.m1 _) ) (fun o h => by simp only [okind, h]) (CallP.mono ( V.step hI2) ?_) | refine WC.call rfl (LK.invoke (he := hent) rfl rfl (V.m1 _) ) (fun o h => by simp only [okind, h]) (CallP.mono ( V.step hI2) ?_) | refine WS.val rfl (LK.move rfl) ?_ | refine WS.val rfl (LK.assign rfl) ?_ | refine WS.val rfl (LK.nilCheck_ptr rfl) ?_ | refine WS.val rfl (LK.add rfl rfl) ?_ | refine WS.val rfl (LK.sub rfl rfl) ?_ | refine WS.val rfl (LK.mul rfl rfl) ?_ | refine WS.val rfl (LK.eql rfl rfl) ?_ | refine WS.val rfl (LK.neq rfl rfl) ?_ | refine WS.val rfl (LK.lss rfl rfl) ?_ | refine WS.val rfl (LK.leq rfl rfl) ?_ | refine WS.val rfl (LK.gtr rfl rfl) ?_ | refine WS.val rfl (LK.geq rfl rfl) ?_ | refine WS.val rfl (LK.and rfl rfl) ?_ | refine WS.val rfl (LK.or rfl rfl) ?_ | refine WS.val rfl (LK.xor rfl rfl) ?_ | refine WS.val rfl (LK.not rfl) ?_ | refine WS.val rfl (LK.pick_t rfl rfl) ?_ | refine WS.val rfl (LK.pick_f rfl rfl) ?_ | refine WS.val rfl (LK.pick rfl rfl rfl) ?_ | refine WS.val rfl (LK.min rfl rfl) ?_ | refine WS.val rfl (LK.max rfl rfl) ?_ | refine WS.val rfl (LK.conv_int rfl) ?_ | refine WS.val rfl (LK.extract rfl rfl) ?_ | refine WS.val rfl (LK.alloc) ?_ | refine WS.val rfl (LK.makeInterface rfl) ?_ | refine WS.val rfl (LK.len rfl) ?_ | refine WS.val rfl (LK.fieldAddr rfl rfl) ?_ | refine WS.val rfl (LK.makeFunc rfl rfl) ?_ | refine WS.val rfl (LK.makeMeth rfl rfl) ?_ | refine WS.val rfl (LK.box rfl rfl) ?_ | refine WS.val rfl (LK.shl rfl rfl (by decide)) ?_ | refine WS.val rfl (LK.shr rfl rfl (by decide)) ?_ | refine WS.val rfl (LK.compl rfl) ?_ | refine WS.val rfl (LK.neg rfl) ?_ | refine WS.val rfl (LK.nilCheck_func rfl) ?_ | refine WS.val rfl (LK.nilCheck_yield rfl) ?_ | refine WS.val rfl (LK.nilCheck_iface rfl) ?_ | refine WS.val rfl (LK.build_s rfl rfl) ?_ | refine WD.val rfl (LK.move rfl) ?_ | refine WD.val rfl (LK.assign rfl) ?_ | refine WD.val rfl (LK.nilCheck_ptr rfl) ?_ | refine WD.val rfl (LK.add rfl rfl) ?_ | refine WD.val rfl (LK.sub rfl rfl) ?_ | refine WD.val rfl (LK.mul rfl rfl) ?_ | refine WD.val rfl (LK.eql rfl rfl) ?_ | refine WD.val rfl (LK.neq rfl rfl) ?_ | refine WD.val rfl (LK.lss rfl rfl) ?_ | refine WD.val rfl (LK.leq rfl rfl) ?_ | refine WD.val rfl (LK.gtr rfl rfl) ?_ | refine WD.val rfl (LK.geq rfl rfl) ?_ | refine WD.val rfl (LK.and rfl rfl) ?_ | refine WD.val rfl (LK.or rfl rfl) ?_ | refine WD.val rfl (LK.xor rfl rfl) ?_ | refine WD.val rfl (LK.not rfl) ?_ | refine WD.val rfl (LK.pick_t rfl rfl) ?_ | refine WD.val rfl (LK.pick_f rfl rfl) ?_ | refine WD.val rfl (LK.pick rfl rfl rfl) ?_ | refine WD.val rfl (LK.min rfl rfl) ?_ | refine WD.val rfl (LK.max rfl rfl) ?_ | refine WD.val rfl (LK.conv_int rfl) ?_ | refine WD.val rfl (LK.extract rfl rfl) ?_ | refine WD.val rfl (LK.alloc) ?_ | refine WD.val rfl (LK.makeInterface rfl) ?_ | refine WD.val rfl (LK.len rfl) ?_ | refine WD.val rfl (LK.fieldAddr rfl rfl) ?_ | refine WD.val rfl (LK.makeFunc rfl rfl) ?_ | refine WD.val rfl (LK.makeMeth rfl rfl) ?_ | refine WD.val rfl (LK.box rfl rfl) ?_ | refine WD.val rfl (LK.shl rfl rfl (by decide)) ?_ | refine WD.val rfl (LK.shr rfl rfl (by decide)) ?_ | refine WD.val rfl (LK.compl rfl) ?_ | refine WD.val rfl (LK.neg rfl) ?_ | refine WD.val rfl (LK.nilCheck_func rfl) ?_ | refine WD.val rfl (LK.nilCheck_yield rfl) ?_ | refine WD.val rfl (LK.nilCheck_iface rfl) ?_ | refine WD.val rfl (LK.build_s rfl rfl) ?_ | refine WC.val rfl (LK.move rfl) (fun o h => by simp only [okind, h]; first | exact .inl rfl | exact .inr rfl) ?_ | refine WC.val rfl (LK.assign rfl) (fun o h => by simp only [okind, h]; first | exact .inl rfl | exact .inr rfl) ?_ | refine WC.val rfl (LK.nilCheck_ptr rfl) (fun o h => by simp only [okind, h]; first | exact .inl rfl | exact .inr rfl) ?_ | refine WC.val rfl (LK.add rfl rfl) (fun o h => by simp only [okind, h]; first | exact .inl rfl | exact .inr rfl) ?_ | refine WC.val rfl (LK.sub rfl rfl) (fun o h => by simp only [okind, h]; first | exact .inl rfl | exact .inr rfl) ?_ | refine WC.val rfl (LK.mul rfl rfl) (fun o h => by simp only [okind, h]; first | exact .inl rfl | exact .inr rfl) ?_ | refine WC.val rfl (LK.eql rfl rfl) (fun o h => by simp only [okind, h]; first | exact .inl rfl | exact .inr rfl) ?_ | refine WC.val rfl (LK.neq rfl rfl) (fun o h => by simp only [okind, h]; first | exact .inl rfl | exact .inr rfl) ?_ | refine WC.val rfl (LK.lss rfl rfl) (fun o h => by simp only [okind, h]; first | exact .inl rfl | exact .inr rfl) ?_ | refine WC.val rfl (LK.leq rfl rfl) (fun o h => by simp only [okind, h]; first | exact .inl rfl | exact .inr rfl) ?_ | refine WC.val rfl (LK.gtr rfl rfl) (fun o h => by simp only [okind, h]; first | exact .inl rfl | exact .inr rfl) ?_ | refine WC.val rfl (LK.geq rfl rfl) (fun o h => by simp only [okind, h]; first | exact .inl rfl | exact .inr rfl) ?_ | refine WC.val rfl (LK.and rfl rfl) (fun o h => by simp only [okind, h]; first | exact .inl rfl | exact .inr rfl) ?_ | refine WC.val rfl (LK.or rfl rfl) (fun o h => by simp only [okind, h]; first | exact .inl rfl | exact .inr rfl) ?_ | refine WC.val rfl (LK.xor rfl rfl) (fun o h => by simp only [okind, h]; first | exact .inl rfl | exact .inr rfl) ?_ | refine WC.val rfl (LK.not rfl) (fun o h => by simp only [okind, h]; first | exact .inl rfl | exact .inr rfl) ?_ | refine WC.val rfl (LK.pick_t rfl rfl) (fun o h => by simp only [okind, h]; first | exact .inl rfl | exact .inr rfl) ?_ | refine WC.val rfl (LK.pick_f rfl rfl) (fun o h => by simp only [okind, h]; first | exact .inl rfl | exact .inr rfl) ?_ | refine WC.val rfl (LK.pick rfl rfl rfl) (fun o h => by simp only [okind, h]; first | exact .inl rfl | exact .inr rfl) ?_ | refine WC.val rfl (LK.min rfl rfl) (fun o h => by simp only [okind, h]; first | exact .inl rfl | exact .inr rfl) ?_ | refine WC.val rfl (LK.max rfl rfl) (fun o h => by simp only [okind, h]; first | exact .inl rfl | exact .inr rfl) ?_ | refine WC.val rfl (LK.conv_int rfl) (fun o h => by simp only [okind, h]; first | exact .inl rfl | exact .inr rfl) ?_ | refine WC.val rfl (LK.extract rfl rfl) (fun o h => by simp only [okind, h]; first | exact .inl rfl | exact .inr rfl) ?_ | refine WC.val rfl (LK.alloc) (fun o h => by simp only [okind, h]; first | exact .inl rfl | exact .inr rfl) ?_ | refine WC.val rfl (LK.makeInterface rfl) (fun o h => by simp only [okind, h]; first | exact .inl rfl | exact .inr rfl) ?_ | refine WC.val rfl (LK.len rfl) (fun o h => by simp only [okind, h]; first | exact .inl rfl | exact .inr rfl) ?_ | refine WC.val rfl (LK.fieldAddr rfl rfl) (fun o h => by simp only [okind, h]; first | exact .inl rfl | exact .inr rfl) ?_ | refine WC.val rfl (LK.makeFunc rfl rfl) (fun o h => by simp only [okind, h]; first | exact .inl rfl | exact .inr rfl) ?_ | refine WC.val rfl (LK.makeMeth rfl rfl) (fun o h => by simp only [okind, h]; first | exact .inl rfl | exact .inr rfl) ?_ | refine WC.val rfl (LK.box rfl rfl) (fun o h => by simp only [okind, h]; first | exact .inl rfl | exact .inr rfl) ?_ | refine WC.val rfl (LK.shl rfl rfl (by decide)) (fun o h => by simp only [okind, h]; first | exact .inl rfl | exact .inr rfl) ?_ | refine WC.val rfl (LK.shr rfl rfl (by decide)) (fun o h => by simp only [okind, h]; first | exact .inl rfl | exact .inr rfl) ?_ | refine WC.val rfl (LK.compl rfl) (fun o h => by simp only [okind, h]; first | exact .inl rfl | exact .inr rfl) ?_ | refine WC.val rfl (LK.neg rfl) (fun o h => by simp only [okind, h]; first | exact .inl rfl | exact .inr rfl) ?_ | refine WC.val rfl (LK.nilCheck_func rfl) (fun o h => by simp only [okind, h]; first | exact .inl rfl | exact .inr rfl) ?_ | refine WC.val rfl (LK.nilCheck_yield rfl) (fun o h => by simp only [okind, h]; first | exact .inl rfl | exact .inr rfl) ?_ | refine WC.val rfl (LK.nilCheck_iface rfl) (fun o h => by simp only [okind, h]; first | exact .inl rfl | exact .inr rfl) ?_ | refine WC.val rfl (LK.build_s rfl rfl) (fun o h => by simp only [okind, h]; first | exact .inl rfl | exact .inr rfl) ?_ | refine WS.no rfl ?_ | refine WD.no rfl ?_ | refine WC.no rfl ?_ | refine WP.cond rfl (fun h => ?_) (fun h => ?_) | refine WS.guard rfl (fun h => ?_) (fun h => ?_) | refine WD.guard rfl (fun h => ?_) (fun h => ?_) | refine WC.guard rfl (fun h => ?_) (fun h => ?_))
    all_goals first
      | (exfalso; have := of_decide_eq_false h; omega)
      | (rintro o H2 (⟨rfl, hI3, hn3, hk3⟩ | ⟨p, rfl, hp⟩)
         · refine WS.nil ?_
           repeat' (first | refine WP.seq ?_ | refine WP.region rfl ?_ | refine WP.draw rfl ?_ | refine WP.conf rfl ?_ | refine WP.skip ?_ | refine WP.inBlock ?_ | refine WP.inScope ?_ | refine WP.block ?_ | refine WP.exit rfl ?_ | refine WS.nil ?_ | refine WD.nil ?_ | refine WC.nil ?_ | refine WP.loop ?_ | refine WS.val rfl (LK.move rfl) ?_ | refine WS.val rfl (LK.assign rfl) ?_ | refine WS.val rfl (LK.nilCheck_ptr rfl) ?_ | refine WS.val rfl (LK.add rfl rfl) ?_ | refine WS.val rfl (LK.sub rfl rfl) ?_ | refine WS.val rfl (LK.mul rfl rfl) ?_ | refine WS.val rfl (LK.eql rfl rfl) ?_ | refine WS.val rfl (LK.neq rfl rfl) ?_ | refine WS.val rfl (LK.lss rfl rfl) ?_ | refine WS.val rfl (LK.leq rfl rfl) ?_ | refine WS.val rfl (LK.gtr rfl rfl) ?_ | refine WS.val rfl (LK.geq rfl rfl) ?_ | refine WS.val rfl (LK.and rfl rfl) ?_ | refine WS.val rfl (LK.or rfl rfl) ?_ | refine WS.val rfl (LK.xor rfl rfl) ?_ | refine WS.val rfl (LK.not rfl) ?_ | refine WS.val rfl (LK.pick_t rfl rfl) ?_ | refine WS.val rfl (LK.pick_f rfl rfl) ?_ | refine WS.val rfl (LK.pick rfl rfl rfl) ?_ | refine WS.val rfl (LK.min rfl rfl) ?_ | refine WS.val rfl (LK.max rfl rfl) ?_ | refine WS.val rfl (LK.conv_int rfl) ?_ | refine WS.val rfl (LK.extract rfl rfl) ?_ | refine WS.val rfl (LK.alloc) ?_ | refine WS.val rfl (LK.makeInterface rfl) ?_ | refine WS.val rfl (LK.len rfl) ?_ | refine WS.val rfl (LK.fieldAddr rfl rfl) ?_ | refine WS.val rfl (LK.makeFunc rfl rfl) ?_ | refine WS.val rfl (LK.makeMeth rfl rfl) ?_ | refine WS.val rfl (LK.box rfl rfl) ?_ | refine WS.val rfl (LK.shl rfl rfl (by decide)) ?_ | refine WS.val rfl (LK.shr rfl rfl (by decide)) ?_ | refine WS.val rfl (LK.compl rfl) ?_ | refine WS.val rfl (LK.neg rfl) ?_ | refine WS.val rfl (LK.nilCheck_func rfl) ?_ | refine WS.val rfl (LK.nilCheck_yield rfl) ?_ | refine WS.val rfl (LK.nilCheck_iface rfl) ?_ | refine WS.val rfl (LK.build_s rfl rfl) ?_ | refine WD.val rfl (LK.move rfl) ?_ | refine WD.val rfl (LK.assign rfl) ?_ | refine WD.val rfl (LK.nilCheck_ptr rfl) ?_ | refine WD.val rfl (LK.add rfl rfl) ?_ | refine WD.val rfl (LK.sub rfl rfl) ?_ | refine WD.val rfl (LK.mul rfl rfl) ?_ | refine WD.val rfl (LK.eql rfl rfl) ?_ | refine WD.val rfl (LK.neq rfl rfl) ?_ | refine WD.val rfl (LK.lss rfl rfl) ?_ | refine WD.val rfl (LK.leq rfl rfl) ?_ | refine WD.val rfl (LK.gtr rfl rfl) ?_ | refine WD.val rfl (LK.geq rfl rfl) ?_ | refine WD.val rfl (LK.and rfl rfl) ?_ | refine WD.val rfl (LK.or rfl rfl) ?_ | refine WD.val rfl (LK.xor rfl rfl) ?_ | refine WD.val rfl (LK.not rfl) ?_ | refine WD.val rfl (LK.pick_t rfl rfl) ?_ | refine WD.val rfl (LK.pick_f rfl rfl) ?_ | refine WD.val rfl (LK.pick rfl rfl rfl) ?_ | refine WD.val rfl (LK.min rfl rfl) ?_ | refine WD.val rfl (LK.max rfl rfl) ?_ | refine WD.val rfl (LK.conv_int rfl) ?_ | refine WD.val rfl (LK.extract rfl rfl) ?_ | refine WD.val rfl (LK.alloc) ?_ | refine WD.val rfl (LK.makeInterface rfl) ?_ | refine WD.val rfl (LK.len rfl) ?_ | refine WD.val rfl (LK.fieldAddr rfl rfl) ?_ | refine WD.val rfl (LK.makeFunc rfl rfl) ?_ | refine WD.val rfl (LK.makeMeth rfl rfl) ?_ | refine WD.val rfl (LK.box rfl rfl) ?_ | refine WD.val rfl (LK.shl rfl rfl (by decide)) ?_ | refine WD.val rfl (LK.shr rfl rfl (by decide)) ?_ | refine WD.val rfl (LK.compl rfl) ?_ | refine WD.val rfl (LK.neg rfl) ?_ | refine WD.val rfl (LK.nilCheck_func rfl) ?_ | refine WD.val rfl (LK.nilCheck_yield rfl) ?_ | refine WD.val rfl (LK.nilCheck_iface rfl) ?_ | refine WD.val rfl (LK.build_s rfl rfl) ?_ | refine WC.val rfl (LK.move rfl) (fun o h => by simp only [okind, h]; first | exact .inl rfl | exact .inr rfl) ?_ | refine WC.val rfl (LK.assign rfl) (fun o h => by simp only [okind, h]; first | exact .inl rfl | exact .inr rfl) ?_ | refine WC.val rfl (LK.nilCheck_ptr rfl) (fun o h => by simp only [okind, h]; first | exact .inl rfl | exact .inr rfl) ?_ | refine WC.val rfl (LK.add rfl rfl) (fun o h => by simp only [okind, h]; first | exact .inl rfl | exact .inr rfl) ?_ | refine WC.val rfl (LK.sub rfl rfl) (fun o h => by simp only [okind, h]; first | exact .inl rfl | exact .inr rfl) ?_ | refine WC.val rfl (LK.mul rfl rfl) (fun o h => by simp only [okind, h]; first | exact .inl rfl | exact .inr rfl) ?_ | refine WC.val rfl (LK.eql rfl rfl) (fun o h => by simp only [okind, h]; first | exact .inl rfl | exact .inr rfl) ?_ | refine WC.val rfl (LK.neq rfl rfl) (fun o h => by simp only [okind, h]; first | exact .inl rfl | exact .inr rfl) ?_ | refine WC.val rfl (LK.lss rfl rfl) (fun o h => by simp only [okind, h]; first | exact .inl rfl | exact .inr rfl) ?_ | refine WC.val rfl (LK.leq rfl rfl) (fun o h => by simp only [okind, h]; first | exact .inl rfl | exact .inr rfl) ?_ | refine WC.val rfl (LK.gtr rfl rfl) (fun o h => by simp only [okind, h]; first | exact .inl rfl | exact .inr rfl) ?_ | refine WC.val rfl (LK.geq rfl rfl) (fun o h => by simp only [okind, h]; first | exact .inl rfl | exact .inr rfl) ?_ | refine WC.val rfl (LK.and rfl rfl) (fun o h => by simp only [okind, h]; first | exact .inl rfl | exact .inr rfl) ?_ | refine WC.val rfl (LK.or rfl rfl) (fun o h => by simp only [okind, h]; first | exact .inl rfl | exact .inr rfl) ?_ | refine WC.val rfl (LK.xor rfl rfl) (fun o h => by simp only [okind, h]; first | exact .inl rfl | exact .inr rfl) ?_ | refine WC.val rfl (LK.not rfl) (fun o h => by simp only [okind, h]; first | exact .inl rfl | exact .inr rfl) ?_ | refine WC.val rfl (LK.pick_t rfl rfl) (fun o h => by simp only [okind, h]; first | exact .inl rfl | exact .inr rfl) ?_ | refine WC.val rfl (LK.pick_f rfl rfl) (fun o h => by simp only [okind, h]; first | exact .inl rfl | exact .inr rfl) ?_ | refine WC.val rfl (LK.pick rfl rfl rfl) (fun o h => by simp only [okind, h]; first | exact .inl rfl | exact .inr rfl) ?_ | refine WC.val rfl (LK.min rfl rfl) (fun o h => by simp only [okind, h]; first | exact .inl rfl | exact .inr rfl) ?_ | refine WC.val rfl (LK.max rfl rfl) (fun o h => by simp only [okind, h]; first | exact .inl rfl | exact .inr rfl) ?_ | refine WC.val rfl (LK.conv_int rfl) (fun o h => by simp only [okind, h]; first | exact .inl rfl | exact .inr rfl) ?_ | refine WC.val rfl (LK.extract rfl rfl) (fun o h => by simp only [okind, h]; first | exact .inl rfl | exact .inr rfl) ?_ | refine WC.val rfl (LK.alloc) (fun o h => by simp only [okind, h]; first | exact .inl rfl | exact .inr rfl) ?_ | refine WC.val rfl (LK.makeInterface rfl) (fun o h => by simp only [okind, h]; first | exact .inl rfl | exact .inr rfl) ?_ | refine WC.val rfl (LK.len rfl) (fun o h => by simp only [okind, h]; first | exact .inl rfl | exact .inr rfl) ?_ | refine WC.val rfl (LK.fieldAddr rfl rfl) (fun o h => by simp only [okind, h]; first | exact .inl rfl | exact .inr rfl) ?_ | refine WC.val rfl (LK.makeFunc rfl rfl) (fun o h => by simp only [okind, h]; first | exact .inl rfl | exact .inr rfl) ?_ | refine WC.val rfl (LK.makeMeth rfl rfl) (fun o h => by simp only [okind, h]; first | exact .inl rfl | exact .inr rfl) ?_ | refine WC.val rfl (LK.box rfl rfl) (fun o h => by simp only [okind, h]; first | exact .inl rfl | exact .inr rfl) ?_ | refine WC.val rfl (LK.shl rfl rfl (by decide)) (fun o h => by simp only [okind, h]; first | exact .inl rfl | exact .inr rfl) ?_ | refine WC.val rfl (LK.shr rfl rfl (by decide)) (fun o h => by simp only [okind, h]; first | exact .inl rfl | exact .inr rfl) ?_ | refine WC.val rfl (LK.compl rfl) (fun o h => by simp only [okind, h]; first | exact .inl rfl | exact .inr rfl) ?_ | refine WC.val rfl (LK.neg rfl) (fun o h => by simp only [okind, h]; first | exact .inl rfl | exact .inr rfl) ?_ | refine WC.val rfl (LK.nilCheck_func rfl) (fun o h => by simp only [okind, h]; first | exact .inl rfl | exact .inr rfl) ?_ | refine WC.val rfl (LK.nilCheck_yield rfl) (fun o h => by simp only [okind, h]; first | exact .inl rfl | exact .inr rfl) ?_ | refine WC.val rfl (LK.nilCheck_iface rfl) (fun o h => by simp only [okind, h]; first | exact .inl rfl | exact .inr rfl) ?_ | refine WC.val rfl (LK.build_s rfl rfl) (fun o h => by simp only [okind, h]; first | exact .inl rfl | exact .inr rfl) ?_ | refine WS.no rfl ?_ | refine WD.no rfl ?_ | refine WC.no rfl ?_ | refine WP.cond rfl (fun h => ?_) (fun h => ?_) | refine WS.guard rfl (fun h => ?_) (fun h => ?_) | refine WD.guard rfl (fun h => ?_) (fun h => ?_) | refine WC.guard rfl (fun h => ?_) (fun h => ?_))
           refine WP.sub (gs := [(1, _), (5, _), (6, _), (7, .int .i64 ((i + 1 : Nat) : Int))]) (ih (offs.length - (i + 1)) _ _ (by omega) ⟨i + 1, rfl, by omega, rfl, hI3, by omega, by rw [hk3 sb (.inr rfl) hn']; exact hg', by rw [hk3 b3 (.inl rfl) (by omega)]; exact hb'⟩) ⟨rfl, rfl, rfl, ?_, trivial⟩
           show some (LV.int .i64 _) = _
           rw [wrap_i64 (by omega) (by omega)]; rfl
         · exact Fin.panic rfl (.inr ⟨p, rfl, hp⟩))
  · have hd : offs.drop i = [] := List.drop_eq_nil_of_le (by omega)
    rw [hd] at hIi
    repeat' (first | refine WP.seq ?_ | refine WP.region rfl ?_ | refine WP.draw rfl ?_ | refine WP.conf rfl ?_ | refine WP.skip ?_ | refine WP.inBlock ?_ | refine WP.inScope ?_ | refine WP.block ?_ | refine WP.exit rfl ?_ | refine WS.nil ?_ | refine WD.nil ?_ | refine WC.nil ?_ | refine WP.loop ?_ | refine WS.val rfl (LK.move rfl) ?_ | refine WS.val rfl (LK.assign rfl) ?_ | refine WS.val rfl (LK.nilCheck_ptr rfl) ?_ | refine WS.val rfl (LK.add rfl rfl) ?_ | refine WS.val rfl (LK.sub rfl rfl) ?_ | refine WS.val rfl (LK.mul rfl rfl) ?_ | refine WS.val rfl (LK.eql rfl rfl) ?_ | refine WS.val rfl (LK.neq rfl rfl) ?_ | refine WS.val rfl (LK.lss rfl rfl) ?_ | refine WS.val rfl (LK.leq rfl rfl) ?_ | refine WS.val rfl (LK.gtr rfl rfl) ?_ | refine WS.val rfl (LK.geq rfl rfl) ?_ | refine WS.val rfl (LK.and rfl rfl) ?_ | refine WS.val rfl (LK.or rfl rfl) ?_ | refine WS.val rfl (LK.xor rfl rfl) ?_ | refine WS.val rfl (LK.not rfl) ?_ | refine WS.val rfl (LK.pick_t rfl rfl) ?_ | refine WS.val rfl (LK.pick_f rfl rfl) ?_ | refine WS.val rfl (LK.pick rfl rfl rfl) ?_ | refine WS.val rfl (LK.min rfl rfl) ?_ | refine WS.val rfl (LK.max rfl rfl) ?_ | refine WS.val rfl (LK.conv_int rfl) ?_ | refine WS.val rfl (LK.extract rfl rfl) ?_ | refine WS.val rfl (LK.alloc) ?_ | refine WS.val rfl (LK.makeInterface rfl) ?_ | refine WS.val rfl (LK.len rfl) ?_ | refine WS.val rfl (LK.fieldAddr rfl rfl) ?_ | refine WS.val rfl (LK.makeFunc rfl rfl) ?_ | refine WS.val rfl (LK.makeMeth rfl rfl) ?_ | refine WS.val rfl (LK.box rfl rfl) ?_ | refine WS.val rfl (LK.shl rfl rfl (by decide)) ?_ | refine WS.val rfl (LK.shr rfl rfl (by decide)) ?_ | refine WS.val rfl (LK.compl rfl) ?_ | refine WS.val rfl (LK.neg rfl) ?_ | refine WS.val rfl (LK.nilCheck_func rfl) ?_ | refine WS.val rfl (LK.nilCheck_yield rfl) ?_ | refine WS.val rfl (LK.nilCheck_iface rfl) ?_ | refine WS.val rfl (LK.build_s rfl rfl) ?_ | refine WD.val rfl (LK.move rfl) ?_ | refine WD.val rfl (LK.assign rfl) ?_ | refine WD.val rfl (LK.nilCheck_ptr rfl) ?_ | refine WD.val rfl (LK.add rfl rfl) ?_ | refine WD.val rfl (LK.sub rfl rfl) ?_ | refine WD.val rfl (LK.mul rfl rfl) ?_ | refine WD.val rfl (LK.eql rfl rfl) ?_ | refine WD.val rfl (LK.neq rfl rfl) ?_ | refine WD.val rfl (LK.lss rfl rfl) ?_ | refine WD.val rfl (LK.leq rfl rfl) ?_ | refine WD.val rfl (LK.gtr rfl rfl) ?_ | refine WD.val rfl (LK.geq rfl rfl) ?_ | refine WD.val rfl (LK.and rfl rfl) ?_ | refine WD.val rfl (LK.or rfl rfl) ?_ | refine WD.val rfl (LK.xor rfl rfl) ?_ | refine WD.val rfl (LK.not rfl) ?_ | refine WD.val rfl (LK.pick_t rfl rfl) ?_ | refine WD.val rfl (LK.pick_f rfl rfl) ?_ | refine WD.val rfl (LK.pick rfl rfl rfl) ?_ | refine WD.val rfl (LK.min rfl rfl) ?_ | refine WD.val rfl (LK.max rfl rfl) ?_ | refine WD.val rfl (LK.conv_int rfl) ?_ | refine WD.val rfl (LK.extract rfl rfl) ?_ | refine WD.val rfl (LK.alloc) ?_ | refine WD.val rfl (LK.makeInterface rfl) ?_ | refine WD.val rfl (LK.len rfl) ?_ | refine WD.val rfl (LK.fieldAddr rfl rfl) ?_ | refine WD.val rfl (LK.makeFunc rfl rfl) ?_ | refine WD.val rfl (LK.makeMeth rfl rfl) ?_ | refine WD.val rfl (LK.box rfl rfl) ?_ | refine WD.val rfl (LK.shl rfl rfl (by decide)) ?_ | refine WD.val rfl (LK.shr rfl rfl (by decide)) ?_ | refine WD.val rfl (LK.compl rfl) ?_ | refine WD.val rfl (LK.neg rfl) ?_ | refine WD.val rfl (LK.nilCheck_func rfl) ?_ | refine WD.val rfl (LK.nilCheck_yield rfl) ?_ | refine WD.val rfl (LK.nilCheck_iface rfl) ?_ | refine WD.val rfl (LK.build_s rfl rfl) ?_ | refine WC.val rfl (LK.move rfl) (fun o h => by simp only [okind, h]; first | exact .inl rfl | exact .inr rfl) ?_ | refine WC.val rfl (LK.assign rfl) (fun o h => by simp only [okind, h]; first | exact .inl rfl | exact .inr rfl) ?_ | refine WC.val rfl (LK.nilCheck_ptr rfl) (fun o h => by simp only [okind, h]; first | exact .inl rfl | exact .inr rfl) ?_ | refine WC.val rfl (LK.add rfl rfl) (fun o h => by simp only [okind, h]; first | exact .inl rfl | exact .inr rfl) ?_ | refine WC.val rfl (LK.sub rfl rfl) (fun o h => by simp only [okind, h]; first | exact .inl rfl | exact .inr rfl) ?_ | refine WC.val rfl (LK.mul rfl rfl) (fun o h => by simp only [okind, h]; first | exact .inl rfl | exact .inr rfl) ?_ | refine WC.val rfl (LK.eql rfl rfl) (fun o h => by simp only [okind, h]; first | exact .inl rfl | exact .inr rfl) ?_ | refine WC.val rfl (LK.neq rfl rfl) (fun o h => by simp only [okind, h]; first | exact .inl rfl | exact .inr rfl) ?_ | refine WC.val rfl (LK.lss rfl rfl) (fun o h => by simp only [okind, h]; first | exact .inl rfl | exact .inr rfl) ?_ | refine WC.val rfl (LK.leq rfl rfl) (fun o h => by simp only [okind, h]; first | exact .inl rfl | exact .inr rfl) ?_ | refine WC.val rfl (LK.gtr rfl rfl) (fun o h => by simp only [okind, h]; first | exact .inl rfl | exact .inr rfl) ?_ | refine WC.val rfl (LK.geq rfl rfl) (fun o h => by simp only [okind, h]; first | exact .inl rfl | exact .inr rfl) ?_ | refine WC.val rfl (LK.and rfl rfl) (fun o h => by simp only [okind, h]; first | exact .inl rfl | exact .inr rfl) ?_ | refine WC.val rfl (LK.or rfl rfl) (fun o h => by simp only [okind, h]; first | exact .inl rfl | exact .inr rfl) ?_ | refine WC.val rfl (LK.xor rfl rfl) (fun o h => by simp only [okind, h]; first | exact .inl rfl | exact .inr rfl) ?_ | refine WC.val rfl (LK.not rfl) (fun o h => by simp only [okind, h]; first | exact .inl rfl | exact .inr rfl) ?_ | refine WC.val rfl (LK.pick_t rfl rfl) (fun o h => by simp only [okind, h]; first | exact .inl rfl | exact .inr rfl) ?_ | refine WC.val rfl (LK.pick_f rfl rfl) (fun o h => by simp only [okind, h]; first | exact .inl rfl | exact .inr rfl) ?_ | refine WC.val rfl (LK.pick rfl rfl rfl) (fun o h => by simp only [okind, h]; first | exact .inl rfl | exact .inr rfl) ?_ | refine WC.val rfl (LK.min rfl rfl) (fun o h => by simp only [okind, h]; first | exact .inl rfl | exact .inr rfl) ?_ | refine WC.val rfl (LK.max rfl rfl) (fun o h => by simp only [okind, h]; first | exact .inl rfl | exact .inr rfl) ?_ | refine WC.val rfl (LK.conv_int rfl) (fun o h => by simp only [okind, h]; first | exact .inl rfl | exact .inr rfl) ?_ | refine WC.val rfl (LK.extract rfl rfl) (fun o h => by simp only [okind, h]; first | exact .inl rfl | exact .inr rfl) ?_ | refine WC.val rfl (LK.alloc) (fun o h => by simp only [okind, h]; first | exact .inl rfl | exact .inr rfl) ?_ | refine WC.val rfl (LK.makeInterface rfl) (fun o h => by simp only [okind, h]; first | exact .inl rfl | exact .inr rfl) ?_ | refine WC.val rfl (LK.len rfl) (fun o h => by simp only [okind, h]; first | exact .inl rfl | exact .inr rfl) ?_ | refine WC.val rfl (LK.fieldAddr rfl rfl) (fun o h => by simp only [okind, h]; first | exact .inl rfl | exact .inr rfl) ?_ | refine WC.val rfl (LK.makeFunc rfl rfl) (fun o h => by simp only [okind, h]; first | exact .inl rfl | exact .inr rfl) ?_ | refine WC.val rfl (LK.makeMeth rfl rfl) (fun o h => by simp only [okind, h]; first | exact .inl rfl | exact .inr rfl) ?_ | refine WC.val rfl (LK.box rfl rfl) (fun o h => by simp only [okind, h]; first | exact .inl rfl | exact .inr rfl) ?_ | refine WC.val rfl (LK.shl rfl rfl (by decide)) (fun o h => by simp only [okind, h]; first | exact .inl rfl | exact .inr rfl) ?_ | refine WC.val rfl (LK.shr rfl rfl (by decide)) (fun o h => by simp only [okind, h]; first | exact .inl rfl | exact .inr rfl) ?_ | refine WC.val rfl (LK.compl rfl) (fun o h => by simp only [okind, h]; first | exact .inl rfl | exact .inr rfl) ?_ | refine WC.val rfl (LK.neg rfl) (fun o h => by simp only [okind, h]; first | exact .inl rfl | exact .inr rfl) ?_ | refine WC.val rfl (LK.nilCheck_func rfl) (fun o h => by simp only [okind, h]; first | exact .inl rfl | exact .inr rfl) ?_ | refine WC.val rfl (LK.nilCheck_yield rfl) (fun o h => by simp only [okind, h]; first | exact .inl rfl | exact .inr rfl) ?_ | refine WC.val rfl (LK.nilCheck_iface rfl) (fun o h => by simp only [okind, h]; first | exact .inl rfl | exact .inr rfl) ?_ | refine WC.val rfl (LK.build_s rfl rfl) (fun o h => by simp only [okind, h]; first | exact .inl rfl | exact .inr rfl) ?_ | refine WS.no rfl ?_ | refine WD.no rfl ?_ | refine WC.no rfl ?_ | refine WP.cond rfl (fun h => ?_) (fun h => ?_) | refine WS.guard rfl (fun h => ?_) (fun h => ?_) | refine WD.guard rfl (fun h => ?_) (fun h => ?_) | refine WC.guard rfl (fun h => ?_) (fun h => ?_))
    all_goals first
      | (exfalso; have := of_decide_eq_true h; omega)
      | exact WP.nil rfl (Fin.ret' rfl rfl (.inl ⟨rfl, V.less hIi (fun i hi => .inl hi), by omega, hb'⟩))

set_option maxHeartbeats 8000000 in
theorem fields (op : Int) (H : LH) (hcb : cb < H.next) {cs : List LV} {e : Nat} {own opn : Bool} (hg : H.get cb = some (.cells cs e own opn)) (hop : cs[0]? = some (.int .i64 op)) (hI0 : ∀ l, vis op = some l → V.I (fun _ => False) l H) :
    CallP Try.prog 33 [.ptr (some (cb, 0)), .iface T w] H (fun o H' => (∃ l, vis op = some l ∧ o = .ret (.bool true) ∧ (∃ pr, V.I pr [] H')) ∨ (vis op = none ∧ o = .ret (.bool false) ∧ Ext H H' none') ∨ ∃ p, o = .panic p ∧ V.Rp p H') := by
  have hg1 : (H.new (.cells [.iface T w] 88 true false)).get cb = some (.cells cs e own opn) := by rw [get_new_old hcb]; exact hg
  have hb : H.next < (H.new (.cells [.iface T w] 88 true false)).next := by simp
  have hX : (H.new (.cells [.iface T w] 88 true false)).get H.next = some (.cells [.iface T w] 88 true false) := get_new_self
  have hop' : cs[0 + 0]? = some (.int .i64 op) := hop
  have e1 := V.ent .id
  have e2 := V.ent .num
  have e3 := V.ent .draws
  have e4 := V.ent .bounds
  have hIv : ∀ l, vis op = some l → V.I (fun i => i = H.next) l (H.new (.cells [.iface T w] 88 true false)) := fun l hl => V.less (V.stable _ (hI0 l hl)) (fun i hi => .inr hi)
  refine en33 (by simp) ?_
  unfold c33
  refine WP.seq ?_
  refine WP.region rfl ?_
  refine WS.val rfl (LK.box rfl rfl) ?_
  refine WS.val rfl (LK.assign rfl) ?_
  refine WS.nil ?_
  refine WP.sub (gs := [(4, _), (3, _), (0, _)]) ?_ ⟨rfl, rfl, rfl, trivial⟩
  refine WP.seq ?_
  refine WP.region rfl ?_
  refine WS.val rfl (LK.makeFunc rfl rfl) ?_
  refine WS.val rfl (LK.assign rfl) ?_
  refine WS.nil ?_
  refine WP.sub (gs := [(5, _), (4, _), (3, _), (0, _)]) ?_ ⟨rfl, rfl, rfl, rfl, trivial⟩
  refine WP.seq ?_
  refine WP.seq ?_
  refine WP.region rfl ?_
  refine WS.val rfl (LK.move rfl) ?_
  refine WS.val rfl (LK.nilCheck_ptr rfl) ?_
  refine WS.val rfl (LK.fieldAddr rfl rfl) ?_
  refine WS.val rfl (LK.load rfl hg1 hop') ?_
  refine WS.nil ?_
  refine WP.sub (gs := [(10, _), (5, _), (4, _), (3, _), (0, _)]) ?_ ⟨rfl, rfl, rfl, rfl, rfl, trivial⟩
  refine WP.block ?_
  refine WP.seq ?_
  refine WP.region rfl ?_
  refine WS.val rfl (LK.eql rfl rfl) ?_
  refine WS.val rfl (LK.assign rfl) ?_
  refine WS.nil ?_
  refine WP.sub (gs := [(11, _), (10, _), (5, _), (4, _), (3, _), (0, _)]) ?_ ⟨rfl, rfl, rfl, rfl, rfl, rfl, trivial⟩
  refine WP.cond rfl (fun h11 => ?_) (fun h11 => ?_)
  · skip
    refine WP.seq ?_
    obtain rfl : op = 1 := by simpa using h11
    have hI := hIv _ rfl
    refine WP.draw rfl ?_
    refine WD.val rfl (LK.move rfl) ?_
    refine WD.val rfl (LK.move rfl) ?_
    refine WD.val rfl (LK.nilCheck_ptr rfl) ?_
    refine WD.val rfl (LK.fieldAddr rfl rfl) ?_
    refine WD.val rfl (LK.move rfl) ?_
    refine WD.val rfl (LK.nilCheck_ptr rfl) ?_
    refine WD.val rfl (LK.fieldAddr rfl rfl) ?_
    refine WD.val rfl (LK.buildSlice rfl rfl rfl) ?_
    (refine WD.call rfl (LK.call_func rfl rfl) (fun o h => by simp only [okind, h]) (CallP.mono (ids V [1, 2] _ _ _ hI hb hX (by decide)) ?_); rintro _ Hc (⟨rfl, hI, hb, hX⟩ | ⟨p, rfl, hp⟩); rotate_left 1; (focus (exact ⟨⟨rfl, rfl⟩, Fin.panic rfl (.inr (.inr ⟨p, rfl, hp⟩))⟩)))
    refine WD.nil ?_
    refine WP.sub (gs := [(4, _), (3, _), (0, _)]) ?_ ⟨rfl, rfl, rfl, trivial⟩
    refine WP.seq ?_
    refine WP.draw rfl ?_
    refine WD.val rfl (LK.load rfl hX rfl) ?_
    refine WD.val rfl (LK.move rfl) ?_
    refine WD.val rfl (LK.nilCheck_ptr rfl) ?_
    refine WD.val rfl (LK.fieldAddr rfl rfl) ?_
    refine WD.val rfl (LK.makeMeth rfl rfl) ?_
    refine WD.val rfl (LK.nilCheck_meth rfl V.s2) ?_
    refine WD.val rfl (LK.move rfl) ?_
    (refine WD.call rfl (LK.invoke rfl rfl (V.m2 _)) (fun o h => by simp only [okind, h]) (CallP.mono (V.stepB hI hb hX) ?_); rintro _ Hc (⟨rfl, hI, hb, hX⟩ | ⟨p, rfl, hp⟩); rotate_left 1; (focus (exact ⟨⟨rfl, rfl⟩, Fin.panic rfl (.inr (.inr ⟨p, rfl, hp⟩))⟩)))
    refine WD.nil ?_
    refine WP.sub (gs := [(4, _), (3, _), (0, _)]) ?_ ⟨rfl, rfl, rfl, trivial⟩
    refine WP.draw rfl ?_
    refine WD.val rfl (LK.load rfl hX rfl) ?_
    refine WD.val rfl (LK.move rfl) ?_
    refine WD.val rfl (LK.nilCheck_ptr rfl) ?_
    refine WD.val rfl (LK.fieldAddr rfl rfl) ?_
    refine WD.val rfl (LK.makeMeth rfl rfl) ?_
    refine WD.val rfl (LK.nilCheck_meth rfl V.s2) ?_
    refine WD.val rfl (LK.move rfl) ?_
    (refine WD.call rfl (LK.invoke rfl rfl (V.m2 _)) (fun o h => by simp only [okind, h]) (CallP.mono (V.stepB hI hb hX) ?_); rintro _ Hc (⟨rfl, hI, hb, hX⟩ | ⟨p, rfl, hp⟩); rotate_left 1; (focus (exact ⟨⟨rfl, rfl⟩, Fin.panic rfl (.inr (.inr ⟨p, rfl, hp⟩))⟩)))
    refine WD.nil ?_
    refine WP.sub (gs := [(4, _)]) ?_ ⟨rfl, trivial⟩
    refine WP.inBlock ?_
    refine WP.seq ?_
    refine WP.region rfl ?_
    refine WS.val rfl (LK.assign rfl) ?_
    refine WS.nil ?_
    first
      | exact WP.ret rfl (Fin.ret' rfl rfl (.inl ⟨_, rfl, rfl, ⟨_, hI⟩⟩))
      | exact WP.ret rfl (Fin.ret' rfl rfl (.inl ⟨_, hvv, rfl, ⟨_, hI⟩⟩))
      | (simp only [beq_iff_eq] at h68; subst h68; exact WP.ret rfl (Fin.ret' rfl rfl (.inl ⟨_, rfl, rfl, ⟨_, hIv [] rfl⟩⟩)))
      | (exfalso; simp only [beq_iff_eq, beq_eq_false_iff_ne, ne_eq] at *; omega)
      | (have hn : vis op = none := by
           simp only [beq_eq_false_iff_ne, ne_eq] at *
           unfold vis
           simp [*]
         exact WP.ret rfl (Fin.ret' rfl rfl (.inr (.inl ⟨hn, rfl, (Ext.refl _ _).new _⟩))))
  refine WP.seq ?_
  refine WP.region rfl ?_
  refine WS.val rfl (LK.eql rfl rfl) ?_
  refine WS.val rfl (LK.assign rfl) ?_
  refine WS.nil ?_
  refine WP.sub (gs := [(38, _), (10, _), (5, _), (4, _), (3, _), (0, _)]) ?_ ⟨rfl, rfl, rfl, rfl, rfl, rfl, trivial⟩
  refine WP.cond rfl (fun h38 => ?_) (fun h38 => ?_)
  · skip
    obtain rfl : op = 2 := by simpa using h38
    have hI := hIv _ rfl
    refine WP.draw rfl ?_
    refine WD.val rfl (LK.load rfl hX rfl) ?_
    refine WD.val rfl (LK.move rfl) ?_
    refine WD.val rfl (LK.nilCheck_ptr rfl) ?_
    refine WD.val rfl (LK.fieldAddr rfl rfl) ?_
    refine WD.val rfl (LK.makeMeth rfl rfl) ?_
    refine WD.val rfl (LK.nilCheck_meth rfl V.s2) ?_
    refine WD.val rfl (LK.move rfl) ?_
    (refine WD.call rfl (LK.invoke rfl rfl (V.m2 _)) (fun o h => by simp only [okind, h]) (CallP.mono (V.stepB hI hb hX) ?_); rintro _ Hc (⟨rfl, hI, hb, hX⟩ | ⟨p, rfl, hp⟩); rotate_left 1; (focus (exact ⟨⟨rfl, rfl⟩, Fin.panic rfl (.inr (.inr ⟨p, rfl, hp⟩))⟩)))
    refine WD.nil ?_
    refine WP.sub (gs := [(4, _)]) ?_ ⟨rfl, trivial⟩
    refine WP.inBlock ?_
    refine WP.seq ?_
    refine WP.region rfl ?_
    refine WS.val rfl (LK.assign rfl) ?_
    refine WS.nil ?_
    first
      | exact WP.ret rfl (Fin.ret' rfl rfl (.inl ⟨_, rfl, rfl, ⟨_, hI⟩⟩))
      | exact WP.ret rfl (Fin.ret' rfl rfl (.inl ⟨_, hvv, rfl, ⟨_, hI⟩⟩))
      | (simp only [beq_iff_eq] at h68; subst h68; exact WP.ret rfl (Fin.ret' rfl rfl (.inl ⟨_, rfl, rfl, ⟨_, hIv [] rfl⟩⟩)))
      | (exfalso; simp only [beq_iff_eq, beq_eq_false_iff_ne, ne_eq] at *; omega)
      | (have hn : vis op = none := by
           simp only [beq_eq_false_iff_ne, ne_eq] at *
           unfold vis
           simp [*]
         exact WP.ret rfl (Fin.ret' rfl rfl (.inr (.inl ⟨hn, rfl, (Ext.refl _ _).new _⟩))))
  refine WP.seq ?_
  refine WP.seq ?_
  refine WP.region rfl ?_
  refine WS.val rfl (LK.eql rfl rfl) ?_
  refine WS.val rfl (LK.assign rfl) ?_
  refine WS.nil ?_
  refine WP.sub (gs := [(48, _), (10, _), (5, _), (4, _), (3, _), (0, _)]) ?_ ⟨rfl, rfl, rfl, rfl, rfl, rfl, trivial⟩
  refine WP.cond rfl (fun h48 => ?_) (fun h48 => ?_)
  · skip
    refine WP.skip ?_
    refine WP.cond rfl (fun h48 => ?_) (fun h48 => ?_)
    rotate_left
    · exfalso; simp only [beq_iff_eq, beq_eq_false_iff_ne, ne_eq] at *; omega
    have hI := hIv _ (show vis op = some [(.id, 1), (.id, 2)] by simp only [beq_iff_eq] at h48; subst h48; rfl)
    have hvv : vis op = some [(.id, 1), (.id, 2)] := by simp only [beq_iff_eq] at h48; subst h48; rfl
    refine WP.draw rfl ?_
    refine WD.val rfl (LK.move rfl) ?_
    refine WD.val rfl (LK.move rfl) ?_
    refine WD.val rfl (LK.nilCheck_ptr rfl) ?_
    refine WD.val rfl (LK.fieldAddr rfl rfl) ?_
    refine WD.val rfl (LK.move rfl) ?_
    refine WD.val rfl (LK.nilCheck_ptr rfl) ?_
    refine WD.val rfl (LK.fieldAddr rfl rfl) ?_
    refine WD.val rfl (LK.buildSlice rfl rfl rfl) ?_
    (refine WD.call rfl (LK.call_func rfl rfl) (fun o h => by simp only [okind, h]) (CallP.mono (ids V [1, 2] _ _ _ hI hb hX (by decide)) ?_); rintro _ Hc (⟨rfl, hI, hb, hX⟩ | ⟨p, rfl, hp⟩); rotate_left 1; (focus (exact ⟨⟨rfl, rfl⟩, Fin.panic rfl (.inr (.inr ⟨p, rfl, hp⟩))⟩)))
    refine WD.nil ?_
    refine WP.sub (gs := [(4, _)]) ?_ ⟨rfl, trivial⟩
    refine WP.inBlock ?_
    refine WP.seq ?_
    refine WP.region rfl ?_
    refine WS.val rfl (LK.assign rfl) ?_
    refine WS.nil ?_
    first
      | exact WP.ret rfl (Fin.ret' rfl rfl (.inl ⟨_, rfl, rfl, ⟨_, hI⟩⟩))
      | exact WP.ret rfl (Fin.ret' rfl rfl (.inl ⟨_, hvv, rfl, ⟨_, hI⟩⟩))
      | (simp only [beq_iff_eq] at h68; subst h68; exact WP.ret rfl (Fin.ret' rfl rfl (.inl ⟨_, rfl, rfl, ⟨_, hIv [] rfl⟩⟩)))
      | (exfalso; simp only [beq_iff_eq, beq_eq_false_iff_ne, ne_eq] at *; omega)
      | (have hn : vis op = none := by
           simp only [beq_eq_false_iff_ne, ne_eq] at *
           unfold vis
           simp [*]
         exact WP.ret rfl (Fin.ret' rfl rfl (.inr (.inl ⟨hn, rfl, (Ext.refl _ _).new _⟩))))
  refine WP.region rfl ?_
  refine WS.val rfl (LK.eql rfl rfl) ?_
  refine WS.val rfl (LK.assign rfl) ?_
  refine WS.nil ?_
  refine WP.sub (gs := [(48, _), (10, _), (5, _), (4, _), (3, _), (0, _)]) ?_ ⟨rfl, rfl, rfl, rfl, rfl, rfl, trivial⟩
  refine WP.cond rfl (fun h48 => ?_) (fun h48 => ?_)
  · skip
    have hI := hIv _ (show vis op = some [(.id, 1), (.id, 2)] by simp only [beq_iff_eq] at h48; subst h48; rfl)
    have hvv : vis op = some [(.id, 1), (.id, 2)] := by simp only [beq_iff_eq] at h48; subst h48; rfl
    refine WP.draw rfl ?_
    refine WD.val rfl (LK.move rfl) ?_
    refine WD.val rfl (LK.move rfl) ?_
    refine WD.val rfl (LK.nilCheck_ptr rfl) ?_
    refine WD.val rfl (LK.fieldAddr rfl rfl) ?_
    refine WD.val rfl (LK.move rfl) ?_
    refine WD.val rfl (LK.nilCheck_ptr rfl) ?_
    refine WD.val rfl (LK.fieldAddr rfl rfl) ?_
    refine WD.val rfl (LK.buildSlice rfl rfl rfl) ?_
    (refine WD.call rfl (LK.call_func rfl rfl) (fun o h => by simp only [okind, h]) (CallP.mono (ids V [1, 2] _ _ _ hI hb hX (by decide)) ?_); rintro _ Hc (⟨rfl, hI, hb, hX⟩ | ⟨p, rfl, hp⟩); rotate_left 1; (focus (exact ⟨⟨rfl, rfl⟩, Fin.panic rfl (.inr (.inr ⟨p, rfl, hp⟩))⟩)))
    refine WD.nil ?_
    refine WP.sub (gs := [(4, _)]) ?_ ⟨rfl, trivial⟩
    refine WP.inBlock ?_
    refine WP.seq ?_
    refine WP.region rfl ?_
    refine WS.val rfl (LK.assign rfl) ?_
    refine WS.nil ?_
    first
      | exact WP.ret rfl (Fin.ret' rfl rfl (.inl ⟨_, rfl, rfl, ⟨_, hI⟩⟩))
      | exact WP.ret rfl (Fin.ret' rfl rfl (.inl ⟨_, hvv, rfl, ⟨_, hI⟩⟩))
      | (simp only [beq_iff_eq] at h68; subst h68; exact WP.ret rfl (Fin.ret' rfl rfl (.inl ⟨_, rfl, rfl, ⟨_, hIv [] rfl⟩⟩)))
      | (exfalso; simp only [beq_iff_eq, beq_eq_false_iff_ne, ne_eq] at *; omega)
      | (have hn : vis op = none := by
           simp only [beq_eq_false_iff_ne, ne_eq] at *
           unfold vis
           simp [*]
         exact WP.ret rfl (Fin.ret' rfl rfl (.inr (.inl ⟨hn, rfl, (Ext.refl _ _).new _⟩))))
  refine WP.seq ?_
  refine WP.region rfl ?_
  refine WS.val rfl (LK.eql rfl rfl) ?_
  refine WS.val rfl (LK.assign rfl) ?_
  refine WS.nil ?_
  refine WP.sub (gs := [(60, _), (10, _), (5, _), (4, _), (3, _), (0, _)]) ?_ ⟨rfl, rfl, rfl, rfl, rfl, rfl, trivial⟩
  refine WP.cond rfl (fun h60 => ?_) (fun h60 => ?_)
  · skip
    obtain rfl : op = 4 := by simpa using h60
    have hI := hIv _ rfl
    refine WP.region rfl ?_
    refine WS.val rfl (LK.move rfl) ?_
    refine WS.val rfl (LK.move rfl) ?_
    refine WS.val rfl (LK.nilCheck_ptr rfl) ?_
    refine WS.val rfl (LK.fieldAddr rfl rfl) ?_
    refine WS.val rfl (LK.buildSlice rfl rfl rfl) ?_
    (refine WS.call rfl (LK.call_func rfl rfl) (CallP.mono (ids V [1] _ _ _ hI hb hX (by decide)) ?_); rintro _ Hc (⟨rfl, hI, hb, hX⟩ | ⟨p, rfl, hp⟩); rotate_left 1; (focus (exact Fin.panic rfl (.inr (.inr ⟨p, rfl, hp⟩)))))
    refine WS.nil ?_
    refine WP.sub (gs := [(4, _)]) ?_ ⟨rfl, trivial⟩
    refine WP.inBlock ?_
    refine WP.seq ?_
    refine WP.region rfl ?_
    refine WS.val rfl (LK.assign rfl) ?_
    refine WS.nil ?_
    first
      | exact WP.ret rfl (Fin.ret' rfl rfl (.inl ⟨_, rfl, rfl, ⟨_, hI⟩⟩))
      | exact WP.ret rfl (Fin.ret' rfl rfl (.inl ⟨_, hvv, rfl, ⟨_, hI⟩⟩))
      | (simp only [beq_iff_eq] at h68; subst h68; exact WP.ret rfl (Fin.ret' rfl rfl (.inl ⟨_, rfl, rfl, ⟨_, hIv [] rfl⟩⟩)))
      | (exfalso; simp only [beq_iff_eq, beq_eq_false_iff_ne, ne_eq] at *; omega)
      | (have hn : vis op = none := by
           simp only [beq_eq_false_iff_ne, ne_eq] at *
           unfold vis
           simp [*]
         exact WP.ret rfl (Fin.ret' rfl rfl (.inr (.inl ⟨hn, rfl, (Ext.refl _ _).new _⟩))))
  refine WP.seq ?_
  refine WP.seq ?_
  refine WP.region rfl ?_
  refine WS.val rfl (LK.eql rfl rfl) ?_
  refine WS.val rfl (LK.assign rfl) ?_
  refine WS.nil ?_
  refine WP.sub (gs := [(68, _), (10, _), (5, _), (4, _), (3, _), (0, _)]) ?_ ⟨rfl, rfl, rfl, rfl, rfl, rfl, trivial⟩
  refine WP.cond rfl (fun h68 => ?_) (fun h68 => ?_)
  · skip
    refine WP.skip ?_
    refine WP.cond rfl (fun h68 => ?_) (fun h68 => ?_)
    rotate_left
    · exfalso; simp only [beq_iff_eq, beq_eq_false_iff_ne, ne_eq] at *; omega
    refine WP.skip ?_
    refine WP.inBlock ?_
    refine WP.seq ?_
    refine WP.region rfl ?_
    refine WS.val rfl (LK.assign rfl) ?_
    refine WS.nil ?_
    refine WP.sub (gs := [(4, _)]) ?_ ⟨rfl, trivial⟩
    first
      | exact WP.ret rfl (Fin.ret' rfl rfl (.inl ⟨_, rfl, rfl, ⟨_, hI⟩⟩))
      | exact WP.ret rfl (Fin.ret' rfl rfl (.inl ⟨_, hvv, rfl, ⟨_, hI⟩⟩))
      | (simp only [beq_iff_eq] at h68; subst h68; exact WP.ret rfl (Fin.ret' rfl rfl (.inl ⟨_, rfl, rfl, ⟨_, hIv [] rfl⟩⟩)))
      | (exfalso; simp only [beq_iff_eq, beq_eq_false_iff_ne, ne_eq] at *; omega)
      | (have hn : vis op = none := by
           simp only [beq_eq_false_iff_ne, ne_eq] at *
           unfold vis
           simp [*]
         exact WP.ret rfl (Fin.ret' rfl rfl (.inr (.inl ⟨hn, rfl, (Ext.refl _ _).new _⟩))))
  refine WP.seq ?_
  refine WP.region rfl ?_
  refine WS.val rfl (LK.eql rfl rfl) ?_
  refine WS.val rfl (LK.assign rfl) ?_
  refine WS.nil ?_
  refine WP.sub (gs := [(68, _), (10, _), (5, _), (4, _), (3, _), (0, _)]) ?_ ⟨rfl, rfl, rfl, rfl, rfl, rfl, trivial⟩
  refine WP.cond rfl (fun h68 => ?_) (fun h68 => ?_)
  · skip
    refine WP.skip ?_
    refine WP.cond rfl (fun h68 => ?_) (fun h68 => ?_)
    rotate_left
    · exfalso; simp only [beq_iff_eq, beq_eq_false_iff_ne, ne_eq] at *; omega
    refine WP.skip ?_
    refine WP.inBlock ?_
    refine WP.seq ?_
    refine WP.region rfl ?_
    refine WS.val rfl (LK.assign rfl) ?_
    refine WS.nil ?_
    refine WP.sub (gs := [(4, _)]) ?_ ⟨rfl, trivial⟩
    first
      | exact WP.ret rfl (Fin.ret' rfl rfl (.inl ⟨_, rfl, rfl, ⟨_, hI⟩⟩))
      | exact WP.ret rfl (Fin.ret' rfl rfl (.inl ⟨_, hvv, rfl, ⟨_, hI⟩⟩))
      | (simp only [beq_iff_eq] at h68; subst h68; exact WP.ret rfl (Fin.ret' rfl rfl (.inl ⟨_, rfl, rfl, ⟨_, hIv [] rfl⟩⟩)))
      | (exfalso; simp only [beq_iff_eq, beq_eq_false_iff_ne, ne_eq] at *; omega)
      | (have hn : vis op = none := by
           simp only [beq_eq_false_iff_ne, ne_eq] at *
           unfold vis
           simp [*]
         exact WP.ret rfl (Fin.ret' rfl rfl (.inr (.inl ⟨hn, rfl, (Ext.refl _ _).new _⟩))))
  refine WP.seq ?_
  refine WP.region rfl ?_
  refine WS.val rfl (LK.eql rfl rfl) ?_
  refine WS.val rfl (LK.assign rfl) ?_
  refine WS.nil ?_
  refine WP.sub (gs := [(68, _), (10, _), (5, _), (4, _), (3, _), (0, _)]) ?_ ⟨rfl, rfl, rfl, rfl, rfl, rfl, trivial⟩
  refine WP.cond rfl (fun h68 => ?_) (fun h68 => ?_)
  · skip
    refine WP.skip ?_
    refine WP.cond rfl (fun h68 => ?_) (fun h68 => ?_)
    rotate_left
    · exfalso; simp only [beq_iff_eq, beq_eq_false_iff_ne, ne_eq] at *; omega
    refine WP.skip ?_
    refine WP.inBlock ?_
    refine WP.seq ?_
    refine WP.region rfl ?_
    refine WS.val rfl (LK.assign rfl) ?_
    refine WS.nil ?_
    refine WP.sub (gs := [(4, _)]) ?_ ⟨rfl, trivial⟩
    first
      | exact WP.ret rfl (Fin.ret' rfl rfl (.inl ⟨_, rfl, rfl, ⟨_, hI⟩⟩))
      | exact WP.ret rfl (Fin.ret' rfl rfl (.inl ⟨_, hvv, rfl, ⟨_, hI⟩⟩))
      | (simp only [beq_iff_eq] at h68; subst h68; exact WP.ret rfl (Fin.ret' rfl rfl (.inl ⟨_, rfl, rfl, ⟨_, hIv [] rfl⟩⟩)))
      | (exfalso; simp only [beq_iff_eq, beq_eq_false_iff_ne, ne_eq] at *; omega)
      | (have hn : vis op = none := by
           simp only [beq_eq_false_iff_ne, ne_eq] at *
           unfold vis
           simp [*]
         exact WP.ret rfl (Fin.ret' rfl rfl (.inr (.inl ⟨hn, rfl, (Ext.refl _ _).new _⟩))))
  refine WP.seq ?_
  refine WP.region rfl ?_
  refine WS.val rfl (LK.eql rfl rfl) ?_
  refine WS.val rfl (LK.assign rfl) ?_
  refine WS.nil ?_
  refine WP.sub (gs := [(68, _), (10, _), (5, _), (4, _), (3, _), (0, _)]) ?_ ⟨rfl, rfl, rfl, rfl, rfl, rfl, trivial⟩
  refine WP.cond rfl (fun h68 => ?_) (fun h68 => ?_)
  · skip
    refine WP.skip ?_
    refine WP.cond rfl (fun h68 => ?_) (fun h68 => ?_)
    rotate_left
    · exfalso; simp only [beq_iff_eq, beq_eq_false_iff_ne, ne_eq] at *; omega
    refine WP.skip ?_
    refine WP.inBlock ?_
    refine WP.seq ?_
    refine WP.region rfl ?_
    refine WS.val rfl (LK.assign rfl) ?_
    refine WS.nil ?_
    refine WP.sub (gs := [(4, _)]) ?_ ⟨rfl, trivial⟩
    first
      | exact WP.ret rfl (Fin.ret' rfl rfl (.inl ⟨_, rfl, rfl, ⟨_, hI⟩⟩))
      | exact WP.ret rfl (Fin.ret' rfl rfl (.inl ⟨_, hvv, rfl, ⟨_, hI⟩⟩))
      | (simp only [beq_iff_eq] at h68; subst h68; exact WP.ret rfl (Fin.ret' rfl rfl (.inl ⟨_, rfl, rfl, ⟨_, hIv [] rfl⟩⟩)))
      | (exfalso; simp only [beq_iff_eq, beq_eq_false_iff_ne, ne_eq] at *; omega)
      | (have hn : vis op = none := by
           simp only [beq_eq_false_iff_ne, ne_eq] at *
           unfold vis
           simp [*]
         exact WP.ret rfl (Fin.ret' rfl rfl (.inr (.inl ⟨hn, rfl, (Ext.refl _ _).new _⟩))))
  refine WP.seq ?_
  refine WP.region rfl ?_
  refine WS.val rfl (LK.eql rfl rfl) ?_
  refine WS.val rfl (LK.assign rfl) ?_
  refine WS.nil ?_
  refine WP.sub (gs := [(68, _), (10, _), (5, _), (4, _), (3, _), (0, _)]) ?_ ⟨rfl, rfl, rfl, rfl, rfl, rfl, trivial⟩
  refine WP.cond rfl (fun h68 => ?_) (fun h68 => ?_)
  · skip
    refine WP.skip ?_
    refine WP.cond rfl (fun h68 => ?_) (fun h68 => ?_)
    rotate_left
    · exfalso; simp only [beq_iff_eq, beq_eq_false_iff_ne, ne_eq] at *; omega
    refine WP.skip ?_
    refine WP.inBlock ?_
    refine WP.seq ?_
    refine WP.region rfl ?_
    refine WS.val rfl (LK.assign rfl) ?_
    refine WS.nil ?_
    refine WP.sub (gs := [(4, _)]) ?_ ⟨rfl, trivial⟩
    first
      | exact WP.ret rfl (Fin.ret' rfl rfl (.inl ⟨_, rfl, rfl, ⟨_, hI⟩⟩))
      | exact WP.ret rfl (Fin.ret' rfl rfl (.inl ⟨_, hvv, rfl, ⟨_, hI⟩⟩))
      | (simp only [beq_iff_eq] at h68; subst h68; exact WP.ret rfl (Fin.ret' rfl rfl (.inl ⟨_, rfl, rfl, ⟨_, hIv [] rfl⟩⟩)))
      | (exfalso; simp only [beq_iff_eq, beq_eq_false_iff_ne, ne_eq] at *; omega)
      | (have hn : vis op = none := by
           simp only [beq_eq_false_iff_ne, ne_eq] at *
           unfold vis
           simp [*]
         exact WP.ret rfl (Fin.ret' rfl rfl (.inr (.inl ⟨hn, rfl, (Ext.refl _ _).new _⟩))))
  refine WP.region rfl ?_
  refine WS.val rfl (LK.eql rfl rfl) ?_
  refine WS.val rfl (LK.assign rfl) ?_
  refine WS.nil ?_
  refine WP.sub (gs := [(68, _), (10, _), (5, _), (4, _), (3, _), (0, _)]) ?_ ⟨rfl, rfl, rfl, rfl, rfl, rfl, trivial⟩
  refine WP.cond rfl (fun h68 => ?_) (fun h68 => ?_)
  · skip
    refine WP.skip ?_
    refine WP.inBlock ?_
    refine WP.seq ?_
    refine WP.region rfl ?_
    refine WS.val rfl (LK.assign rfl) ?_
    refine WS.nil ?_
    refine WP.sub (gs := [(4, _)]) ?_ ⟨rfl, trivial⟩
    first
      | exact WP.ret rfl (Fin.ret' rfl rfl (.inl ⟨_, rfl, rfl, ⟨_, hI⟩⟩))
      | exact WP.ret rfl (Fin.ret' rfl rfl (.inl ⟨_, hvv, rfl, ⟨_, hI⟩⟩))
      | (simp only [beq_iff_eq] at h68; subst h68; exact WP.ret rfl (Fin.ret' rfl rfl (.inl ⟨_, rfl, rfl, ⟨_, hIv [] rfl⟩⟩)))
      | (exfalso; simp only [beq_iff_eq, beq_eq_false_iff_ne, ne_eq] at *; omega)
      | (have hn : vis op = none := by
           simp only [beq_eq_false_iff_ne, ne_eq] at *
           unfold vis
           simp [*]
         exact WP.ret rfl (Fin.ret' rfl rfl (.inr (.inl ⟨hn, rfl, (Ext.refl _ _).new _⟩))))
  refine WP.seq ?_
  refine WP.region rfl ?_
  refine WS.val rfl (LK.eql rfl rfl) ?_
  refine WS.val rfl (LK.assign rfl) ?_
  refine WS.nil ?_
  refine WP.sub (gs := [(75, _), (10, _), (5, _), (4, _), (3, _), (0, _)]) ?_ ⟨rfl, rfl, rfl, rfl, rfl, rfl, trivial⟩
  refine WP.cond rfl (fun h75 => ?_) (fun h75 => ?_)
  · skip
    refine WP.seq ?_
    obtain rfl : op = 6 := by simpa using h75
    have hI := hIv _ rfl
    refine WP.region rfl ?_
    refine WS.val rfl (LK.move rfl) ?_
    refine WS.val rfl (LK.move rfl) ?_
    refine WS.val rfl (LK.nilCheck_ptr rfl) ?_
    refine WS.val rfl (LK.fieldAddr rfl rfl) ?_
    refine WS.val rfl (LK.buildSlice rfl rfl rfl) ?_
    (refine WS.call rfl (LK.call_func rfl rfl) (CallP.mono (ids V [1] _ _ _ hI hb hX (by decide)) ?_); rintro _ Hc (⟨rfl, hI, hb, hX⟩ | ⟨p, rfl, hp⟩); rotate_left 1; (focus (exact Fin.panic rfl (.inr (.inr ⟨p, rfl, hp⟩)))))
    refine WS.nil ?_
    refine WP.sub (gs := [(4, _), (3, _), (0, _)]) ?_ ⟨rfl, rfl, rfl, trivial⟩
    refine WP.draw rfl ?_
    refine WD.val rfl (LK.load rfl hX rfl) ?_
    refine WD.val rfl (LK.move rfl) ?_
    refine WD.val rfl (LK.nilCheck_ptr rfl) ?_
    refine WD.val rfl (LK.fieldAddr rfl rfl) ?_
    refine WD.val rfl (LK.makeMeth rfl rfl) ?_
    refine WD.val rfl (LK.nilCheck_meth rfl V.s2) ?_
    refine WD.val rfl (LK.move rfl) ?_
    (refine WD.call rfl (LK.invoke rfl rfl (V.m2 _)) (fun o h => by simp only [okind, h]) (CallP.mono (V.stepB hI hb hX) ?_); rintro _ Hc (⟨rfl, hI, hb, hX⟩ | ⟨p, rfl, hp⟩); rotate_left 1; (focus (exact ⟨⟨rfl, rfl⟩, Fin.panic rfl (.inr (.inr ⟨p, rfl, hp⟩))⟩)))
    refine WD.nil ?_
    refine WP.sub (gs := [(4, _)]) ?_ ⟨rfl, trivial⟩
    refine WP.inBlock ?_
    refine WP.seq ?_
    refine WP.region rfl ?_
    refine WS.val rfl (LK.assign rfl) ?_
    refine WS.nil ?_
    first
      | exact WP.ret rfl (Fin.ret' rfl rfl (.inl ⟨_, rfl, rfl, ⟨_, hI⟩⟩))
      | exact WP.ret rfl (Fin.ret' rfl rfl (.inl ⟨_, hvv, rfl, ⟨_, hI⟩⟩))
      | (simp only [beq_iff_eq] at h68; subst h68; exact WP.ret rfl (Fin.ret' rfl rfl (.inl ⟨_, rfl, rfl, ⟨_, hIv [] rfl⟩⟩)))
      | (exfalso; simp only [beq_iff_eq, beq_eq_false_iff_ne, ne_eq] at *; omega)
      | (have hn : vis op = none := by
           simp only [beq_eq_false_iff_ne, ne_eq] at *
           unfold vis
           simp [*]
         exact WP.ret rfl (Fin.ret' rfl rfl (.inr (.inl ⟨hn, rfl, (Ext.refl _ _).new _⟩))))
  refine WP.seq ?_
  refine WP.region rfl ?_
  refine WS.val rfl (LK.eql rfl rfl) ?_
  refine WS.val rfl (LK.assign rfl) ?_
  refine WS.nil ?_
  refine WP.sub (gs := [(91, _), (10, _), (4, _), (3, _), (0, _)]) ?_ ⟨rfl, rfl, rfl, rfl, rfl, trivial⟩
  refine WP.cond rfl (fun h91 => ?_) (fun h91 => ?_)
  · skip
    obtain rfl : op = 7 := by simpa using h91
    have hI := hIv _ rfl
    refine WP.draw rfl ?_
    refine WD.val rfl (LK.load rfl hX rfl) ?_
    refine WD.val rfl (LK.move rfl) ?_
    refine WD.val rfl (LK.nilCheck_ptr rfl) ?_
    refine WD.val rfl (LK.fieldAddr rfl rfl) ?_
    refine WD.val rfl (LK.makeMeth rfl rfl) ?_
    refine WD.val rfl (LK.nilCheck_meth rfl V.s2) ?_
    refine WD.val rfl (LK.move rfl) ?_
    (refine WD.call rfl (LK.invoke rfl rfl (V.m2 _)) (fun o h => by simp only [okind, h]) (CallP.mono (V.stepB hI hb hX) ?_); rintro _ Hc (⟨rfl, hI, hb, hX⟩ | ⟨p, rfl, hp⟩); rotate_left 1; (focus (exact ⟨⟨rfl, rfl⟩, Fin.panic rfl (.inr (.inr ⟨p, rfl, hp⟩))⟩)))
    refine WD.nil ?_
    refine WP.sub (gs := [(4, _)]) ?_ ⟨rfl, trivial⟩
    refine WP.inBlock ?_
    refine WP.seq ?_
    refine WP.region rfl ?_
    refine WS.val rfl (LK.assign rfl) ?_
    refine WS.nil ?_
    first
      | exact WP.ret rfl (Fin.ret' rfl rfl (.inl ⟨_, rfl, rfl, ⟨_, hI⟩⟩))
      | exact WP.ret rfl (Fin.ret' rfl rfl (.inl ⟨_, hvv, rfl, ⟨_, hI⟩⟩))
      | (simp only [beq_iff_eq] at h68; subst h68; exact WP.ret rfl (Fin.ret' rfl rfl (.inl ⟨_, rfl, rfl, ⟨_, hIv [] rfl⟩⟩)))
      | (exfalso; simp only [beq_iff_eq, beq_eq_false_iff_ne, ne_eq] at *; omega)
      | (have hn : vis op = none := by
           simp only [beq_eq_false_iff_ne, ne_eq] at *
           unfold vis
           simp [*]
         exact WP.ret rfl (Fin.ret' rfl rfl (.inr (.inl ⟨hn, rfl, (Ext.refl _ _).new _⟩))))
  refine WP.seq ?_
  refine WP.region rfl ?_
  refine WS.val rfl (LK.eql rfl rfl) ?_
  refine WS.val rfl (LK.assign rfl) ?_
  refine WS.nil ?_
  refine WP.sub (gs := [(101, _), (10, _), (4, _), (3, _), (0, _)]) ?_ ⟨rfl, rfl, rfl, rfl, rfl, trivial⟩
  refine WP.cond rfl (fun h101 => ?_) (fun h101 => ?_)
  · skip
    obtain rfl : op = 11 := by simpa using h101
    have hI := hIv _ rfl
    refine WP.draw rfl ?_
    refine WD.val rfl (LK.load rfl hX rfl) ?_
    refine WD.val rfl (LK.move rfl) ?_
    refine WD.val rfl (LK.nilCheck_ptr rfl) ?_
    refine WD.val rfl (LK.fieldAddr rfl rfl) ?_
    refine WD.val rfl (LK.makeMeth rfl rfl) ?_
    refine WD.val rfl (LK.nilCheck_meth rfl V.s3) ?_
    refine WD.val rfl (LK.move rfl) ?_
    (refine WD.call rfl (LK.invoke rfl rfl (V.m3 _)) (fun o h => by simp only [okind, h]) (CallP.mono (V.stepB hI hb hX) ?_); rintro _ Hc (⟨rfl, hI, hb, hX⟩ | ⟨p, rfl, hp⟩); rotate_left 1; (focus (exact ⟨⟨rfl, rfl⟩, Fin.panic rfl (.inr (.inr ⟨p, rfl, hp⟩))⟩)))
    refine WD.nil ?_
    refine WP.sub (gs := [(4, _)]) ?_ ⟨rfl, trivial⟩
    refine WP.inBlock ?_
    refine WP.seq ?_
    refine WP.region rfl ?_
    refine WS.val rfl (LK.assign rfl) ?_
    refine WS.nil ?_
    first
      | exact WP.ret rfl (Fin.ret' rfl rfl (.inl ⟨_, rfl, rfl, ⟨_, hI⟩⟩))
      | exact WP.ret rfl (Fin.ret' rfl rfl (.inl ⟨_, hvv, rfl, ⟨_, hI⟩⟩))
      | (simp only [beq_iff_eq] at h68; subst h68; exact WP.ret rfl (Fin.ret' rfl rfl (.inl ⟨_, rfl, rfl, ⟨_, hIv [] rfl⟩⟩)))
      | (exfalso; simp only [beq_iff_eq, beq_eq_false_iff_ne, ne_eq] at *; omega)
      | (have hn : vis op = none := by
           simp only [beq_eq_false_iff_ne, ne_eq] at *
           unfold vis
           simp [*]
         exact WP.ret rfl (Fin.ret' rfl rfl (.inr (.inl ⟨hn, rfl, (Ext.refl _ _).new _⟩))))
  refine WP.seq ?_
  refine WP.region rfl ?_
  refine WS.val rfl (LK.eql rfl rfl) ?_
  refine WS.val rfl (LK.assign rfl) ?_
  refine WS.nil ?_
  refine WP.sub (gs := [(111, _), (4, _), (3, _), (0, _)]) ?_ ⟨rfl, rfl, rfl, rfl, trivial⟩
  refine WP.cond rfl (fun h111 => ?_) (fun h111 => ?_)
  · skip
    refine WP.seq ?_
    obtain rfl : op = 12 := by simpa using h111
    have hI := hIv _ rfl
    refine WP.draw rfl ?_
    refine WD.val rfl (LK.load rfl hX rfl) ?_
    refine WD.val rfl (LK.move rfl) ?_
    refine WD.val rfl (LK.nilCheck_ptr rfl) ?_
    refine WD.val rfl (LK.fieldAddr rfl rfl) ?_
    refine WD.val rfl (LK.makeMeth rfl rfl) ?_
    refine WD.val rfl (LK.nilCheck_meth rfl V.s2) ?_
    refine WD.val rfl (LK.move rfl) ?_
    (refine WD.call rfl (LK.invoke rfl rfl (V.m2 _)) (fun o h => by simp only [okind, h]) (CallP.mono (V.stepB hI hb hX) ?_); rintro _ Hc (⟨rfl, hI, hb, hX⟩ | ⟨p, rfl, hp⟩); rotate_left 1; (focus (exact ⟨⟨rfl, rfl⟩, Fin.panic rfl (.inr (.inr ⟨p, rfl, hp⟩))⟩)))
    refine WD.nil ?_
    refine WP.sub (gs := [(4, _), (3, _), (0, _)]) ?_ ⟨rfl, rfl, rfl, trivial⟩
    refine WP.draw rfl ?_
    refine WD.val rfl (LK.load rfl hX rfl) ?_
    refine WD.val rfl (LK.move rfl) ?_
    refine WD.val rfl (LK.nilCheck_ptr rfl) ?_
    refine WD.val rfl (LK.fieldAddr rfl rfl) ?_
    refine WD.val rfl (LK.makeMeth rfl rfl) ?_
    refine WD.val rfl (LK.nilCheck_meth rfl V.s4) ?_
    refine WD.val rfl (LK.move rfl) ?_
    (refine WD.call rfl (LK.invoke rfl rfl (V.m4 _)) (fun o h => by simp only [okind, h]) (CallP.mono (V.stepB hI hb hX) ?_); rintro _ Hc (⟨rfl, hI, hb, hX⟩ | ⟨p, rfl, hp⟩); rotate_left 1; (focus (exact ⟨⟨rfl, rfl⟩, Fin.panic rfl (.inr (.inr ⟨p, rfl, hp⟩))⟩)))
    refine WD.nil ?_
    refine WP.sub (gs := [(4, _)]) ?_ ⟨rfl, trivial⟩
    refine WP.inBlock ?_
    refine WP.seq ?_
    refine WP.region rfl ?_
    refine WS.val rfl (LK.assign rfl) ?_
    refine WS.nil ?_
    first
      | exact WP.ret rfl (Fin.ret' rfl rfl (.inl ⟨_, rfl, rfl, ⟨_, hI⟩⟩))
      | exact WP.ret rfl (Fin.ret' rfl rfl (.inl ⟨_, hvv, rfl, ⟨_, hI⟩⟩))
      | (simp only [beq_iff_eq] at h68; subst h68; exact WP.ret rfl (Fin.ret' rfl rfl (.inl ⟨_, rfl, rfl, ⟨_, hIv [] rfl⟩⟩)))
      | (exfalso; simp only [beq_iff_eq, beq_eq_false_iff_ne, ne_eq] at *; omega)
      | (have hn : vis op = none := by
           simp only [beq_eq_false_iff_ne, ne_eq] at *
           unfold vis
           simp [*]
         exact WP.ret rfl (Fin.ret' rfl rfl (.inr (.inl ⟨hn, rfl, (Ext.refl _ _).new _⟩))))
  refine WP.seq ?_
  refine WP.region rfl ?_
  refine WS.val rfl (LK.assign rfl) ?_
  refine WS.nil ?_
  refine WP.sub (gs := [(4, _)]) ?_ ⟨rfl, trivial⟩
  first
    | exact WP.ret rfl (Fin.ret' rfl rfl (.inl ⟨_, rfl, rfl, ⟨_, hI⟩⟩))
    | exact WP.ret rfl (Fin.ret' rfl rfl (.inl ⟨_, hvv, rfl, ⟨_, hI⟩⟩))
    | (simp only [beq_iff_eq] at h68; subst h68; exact WP.ret rfl (Fin.ret' rfl rfl (.inl ⟨_, rfl, rfl, ⟨_, hIv [] rfl⟩⟩)))
    | (exfalso; simp only [beq_iff_eq, beq_eq_false_iff_ne, ne_eq] at *; omega)
    | (have hn : vis op = none := by
         simp only [beq_eq_false_iff_ne, ne_eq] at *
         unfold vis
         simp [*]
       exact WP.ret rfl (Fin.ret' rfl rfl (.inr (.inl ⟨hn, rfl, (Ext.refl _ _).new _⟩))))
end
end Go.Proofs.Ythakgknamfopcaa
