/- The statement JournalFlips, walked. -/
import Derived.Test.YthakgknamfopcaaWV
namespace Go.Proofs.Ythakgknamfopcaa
open Go Go.Lv
set_option linter.unusedVariables false
set_option maxRecDepth 100000

/-! ### a changed byte is seen by the checksum -/
theorem xor_cancel {a b c : Nat} (h : a ^^^ c = b ^^^ c) : a = b := by
  have := congrArg (· ^^^ c) h
  simpa [Nat.xor_assoc, Nat.xor_self] using this
theorem xor_cancel' {a b c : Nat} (h : c ^^^ a = c ^^^ b) : a = b := xor_cancel (c := c) (by rw [Nat.xor_comm a, Nat.xor_comm b]; exact h)
theorem crc1_inj {r s : Nat} (hr : r < 2 ^ 32) (hs : s < 2 ^ 32) (h : crc1 r = crc1 s) : r = s := by
  have key : ∀ {z : Nat}, z < 2 ^ 32 → ((z / 2) ^^^ 3988292384).testBit 31 = true := by
    intro z hz
    rw [Nat.testBit_xor, Nat.testBit_lt_two_pow (show z / 2 < 2 ^ 31 by omega)]
    decide
  have key2 : ∀ {z : Nat}, z < 2 ^ 32 → (z / 2).testBit 31 = false := fun hz => Nat.testBit_lt_two_pow (by omega)
  unfold crc1 at h
  by_cases h1 : r % 2 = 1 <;> by_cases h2 : s % 2 = 1
  · rw [if_pos h1, if_pos h2] at h
    have := xor_cancel h
    omega
  · rw [if_pos h1, if_neg h2] at h
    have := key hr
    rw [h, key2 hs] at this
    cases this
  · rw [if_neg h1, if_pos h2] at h
    have := key hs
    rw [← h, key2 hr] at this
    cases this
  · rw [if_neg h1, if_neg h2] at h
    omega
theorem crcN_inj : ∀ {n r s : Nat}, r < 2 ^ 32 → s < 2 ^ 32 → crcN n r = crcN n s → r = s
  | 0, r, s, _, _, h => h
  | n + 1, r, s, hr, hs, h => crc1_inj hr hs (crcN_inj (n := n) (crc1_lt hr) (crc1_lt hs) h)
theorem crcB_inj {r s : Nat} {b c : UInt8} (hr : r < 2 ^ 32) (hs : s < 2 ^ 32) (h : crcB r b = crcB s c) : r ^^^ b.toNat = s ^^^ c.toNat :=
  crcN_inj (n := 8) (Nat.xor_lt_two_pow hr (Nat.lt_of_lt_of_le (UInt8.toNat_lt b) (by decide))) (Nat.xor_lt_two_pow hs (Nat.lt_of_lt_of_le (UInt8.toNat_lt c) (by decide))) h
theorem crcL_inj : ∀ {ys : List UInt8} {r s : Nat}, r < 2 ^ 32 → s < 2 ^ 32 → crcL r ys = crcL s ys → r = s
  | [], r, s, _, _, h => h
  | y :: ys, r, s, hr, hs, h => xor_cancel (crcB_inj hr hs (crcL_inj (ys := ys) (crcB_lt hr) (crcB_lt hs) h))
theorem crcL_append : ∀ {xs ys : List UInt8} {r : Nat}, crcL r (xs ++ ys) = crcL (crcL r xs) ys
  | [], ys, r => rfl
  | x :: xs, ys, r => crcL_append (xs := xs)
theorem sumC_inj {p q : List UInt8} {a b : UInt8} (h : sumC (p ++ a :: q) = sumC (p ++ b :: q)) : a = b := by
  have h1 := xor_cancel h
  rw [crcL_append, crcL_append] at h1
  have hp : crcL 4294967295 p < 2 ^ 32 := crcL_lt (by decide)
  have h2 := crcB_inj hp hp (crcL_inj (ys := q) (crcB_lt hp) (crcB_lt hp) h1)
  exact UInt8.toNat_inj.1 (xor_cancel' h2)
theorem sumB_inj {x y : Nat} (hx : x < 2 ^ 32) (hy : y < 2 ^ 32) (h : sumB x = sumB y) : x = y := by
  simp only [sumB, List.cons.injEq, and_true, ← UInt8.toNat_inj, UInt8.toNat_ofNat'] at h
  omega
theorem sumR_set {last f : List UInt8} {j : Nat} {x : UInt8} (hj : j < f.length) (h : sumR last (f.set j x) = sumR last f) : x = f[j] := by
  have h1 := sumB_inj (sumC_lt _) (sumC_lt _) h
  have e1 : f = f.take j ++ f[j] :: f.drop (j + 1) := by rw [← List.drop_eq_getElem_cons hj, List.take_append_drop]
  have e2 : f.set j x = f.take j ++ x :: f.drop (j + 1) := by rw [List.set_eq_take_append_cons_drop, if_pos hj]
  have h2 : sumC ((last ++ f.take j) ++ x :: f.drop (j + 1)) = sumC ((last ++ f.take j) ++ f[j] :: f.drop (j + 1)) := by
    rw [List.append_assoc, List.append_assoc, ← e2, ← e1]
    exact h1
  exact sumC_inj h2
theorem getU_same {xs ys : List UInt8} {y k : Nat} (h : getU xs = some (y, k)) (he : ys.take k = xs.take k) : getU ys = some (y, k) := by
  have h1 := getU_take h (Nat.le_refl k)
  rw [← he] at h1
  have h2 := getU_append (ys.drop k) h1
  rw [List.take_append_drop] at h2
  exact h2
theorem drop_set_ge {bs : List UInt8} {a i : Nat} {x : UInt8} (h : a ≤ i) : (bs.set i x).drop a = (bs.drop a).set (i - a) x := by
  rw [List.drop_set, if_neg (by omega)]
theorem take_set_ge {bs : List UInt8} {a i : Nat} {x : UInt8} (h : a ≤ i) : (bs.set i x).take a = bs.take a := by
  rw [List.take_set, List.set_eq_of_length_le (by rw [List.length_take]; omega)]
/-- A record with one byte changed, behind its head, is no record. -/
theorem nextR_flip {bs last : List UInt8} {at_ i size k : Nat} {r : Rec} {x : UInt8} (h : nextR bs at_ last = some r) (hg : getU (bs.drop at_) = some (size, k)) (h1 : at_ + k ≤ i) (h2 : i < r.fin) (h3 : i < bs.length) (hx : x ≠ bs[i]) : nextR (bs.set i x) at_ last = none := by
  unfold nextR at h
  split at h
  · rename_i hlt
    cases hc : getC (bs.drop at_) with
    | none => rw [hc] at h; cases h
    | some p =>
      obtain ⟨c, n⟩ := p
      rw [hc, Option.bind_some] at h
      split at h
      · cases h
      · rename_i h4
        split at h
        · rename_i h5
          cases h
          simp only at h2 h4 h5
          obtain ⟨size', k', hg', hn, h6, h7⟩ := getC_size hc
          rw [hg] at hg'
          cases hg'
          subst hn
          have hdl : (bs.drop at_).length = bs.length - at_ := List.length_drop
          have hgx : getU ((bs.set i x).drop at_) = some (size, k) := getU_same hg (by rw [drop_set_ge (by omega), take_set_ge (by omega)])
          unfold nextR
          rw [List.length_set, if_pos hlt]
          cases hc' : getC ((bs.set i x).drop at_) with
          | none => rfl
          | some p' =>
            obtain ⟨c', n'⟩ := p'
            obtain ⟨size', k', hg', hn, h6', h7'⟩ := getC_size hc'
            rw [hgx] at hg'
            cases hg'
            subst hn
            rw [Option.bind_some, if_neg h4, if_neg ?_]
            simp only
            intro hs
            by_cases hi : i < at_ + (k + size)
            · have e1 : (bs.set i x).drop (at_ + (k + size)) = bs.drop (at_ + (k + size)) := List.drop_set_of_lt hi
              have e2 : ((bs.set i x).drop at_).take (k + size) = ((bs.drop at_).take (k + size)).set (i - at_) x := by rw [drop_set_ge (by omega), List.take_set]
              rw [e1, e2, h5] at hs
              have hj : i - at_ < ((bs.drop at_).take (k + size)).length := by rw [List.length_take]; omega
              have := sumR_set hj hs.symm
              rw [List.getElem_take, List.getElem_drop] at this
              apply hx
              rw [this]
              congr 1
              omega
            · have e2 : ((bs.set i x).drop at_).take (k + size) = (bs.drop at_).take (k + size) := by rw [drop_set_ge (by omega), take_set_ge (by omega)]
              rw [e2, ← h5, drop_set_ge (by omega)] at hs
              have hj := congrArg (fun l : List UInt8 => l[i - (at_ + (k + size))]?) hs
              have hlt4 : i - (at_ + (k + size)) < 4 := by omega
              simp only [List.getElem?_take, if_pos hlt4] at hj
              rw [List.getElem?_set_self (by rw [List.length_drop]; omega), List.getElem?_drop, show at_ + (k + size) + (i - (at_ + (k + size))) = i by omega, List.getElem?_eq_getElem h3] at hj
              exact hx (Option.some.inj hj)
        · cases h
  · cases h
theorem recs_flip {j : Jr} (hg : j.Good) {i w size k : Nat} {x : UInt8} (hw : w < j.rs.length) (h1 : ∀ r ∈ j.rs.take w, r.fin ≤ i) (h2 : i < j.rs[w].fin) (hu : getU (j.b.drop (lastFin (j.rs.take w))) = some (size, k)) (h3 : lastFin (j.rs.take w) + k ≤ i) (h4 : i < j.b.length) (hx : x ≠ j.b[i]) : recs (j.b.set i x) = j.rs.take w := by
  refine recs_stop hg (n := i) (take_set_ge (Nat.le_refl _)) h1 ?_
  have h := chain_at hg.ch (List.getElem?_eq_getElem hw)
  exact nextR_flip h hu h3 h2 h4 hx
theorem head_of {j : Jr} (hg : j.Good) {w : Nat} (hw : w < j.rs.length) : ∃ size k, getU (j.b.drop (lastFin (j.rs.take w))) = some (size, k) := by
  have h := chain_at hg.ch (List.getElem?_eq_getElem hw)
  have h : nextR j.b (lastFin (j.rs.take w)) (lastSum (j.rs.take w)) = some j.rs[w] := h
  unfold nextR at h
  split at h
  · cases hc : getC (j.b.drop (lastFin (j.rs.take w))) with
    | none => rw [hc] at h; cases h
    | some p =>
      obtain ⟨c, n⟩ := p
      obtain ⟨size, k, h1, _⟩ := getC_size hc
      exact ⟨size, k, h1⟩
  · cases h
end Go.Proofs.Ythakgknamfopcaa
