/- Lv: bitwise operations on numbers without sign, as numbers. -/
import Derived.Test.YthakgknamfopcaaLvSv
namespace Go.Lv
open Go
set_option linter.unusedVariables false
set_option linter.unusedSimpArgs false

theorem wrap_un {k : IntKind} (hk : k.signed = false) (x : Int) : k.wrap x = x % 2 ^ k.bits := by
  unfold IntKind.wrap
  simp [hk]
theorem wrap_un_nat {k : IntKind} (hk : k.signed = false) {x : Nat} (h : x < 2 ^ k.bits) : k.wrap (x : Int) = x := by
  rw [wrap_un hk]
  have : ((2 : Int) ^ k.bits) = ((2 ^ k.bits : Nat) : Int) := by simp
  rw [this]
  exact Int.emod_eq_of_lt (by omega) (by exact_mod_cast h)
theorem wrap_un_mod {k : IntKind} (hk : k.signed = false) (x : Nat) : k.wrap (x : Int) = ((x % 2 ^ k.bits : Nat) : Int) := by
  rw [wrap_un hk]; simp
theorem ofInt_nat (w x : Nat) : (BitVec.ofInt w (x : Int)).toNat = x % 2 ^ w := by
  rw [BitVec.ofInt_natCast, BitVec.toNat_ofNat]
theorem bit_or {k : IntKind} (hk : k.signed = false) {a b : Nat} (ha : a < 2 ^ k.bits) (hb : b < 2 ^ k.bits) : bitI .or k a b = ((a ||| b : Nat) : Int) := by
  show k.wrap _ = _
  rw [BitVec.toNat_or, ofInt_nat, ofInt_nat, Nat.mod_eq_of_lt ha, Nat.mod_eq_of_lt hb, wrap_un_nat hk (Nat.or_lt_two_pow ha hb)]
theorem bit_and {k : IntKind} (hk : k.signed = false) {a b : Nat} (ha : a < 2 ^ k.bits) (hb : b < 2 ^ k.bits) : bitI .and k a b = ((a &&& b : Nat) : Int) := by
  show k.wrap _ = _
  rw [BitVec.toNat_and, ofInt_nat, ofInt_nat, Nat.mod_eq_of_lt ha, Nat.mod_eq_of_lt hb, wrap_un_nat hk (Nat.and_lt_two_pow _ hb)]
theorem bit_xor {k : IntKind} (hk : k.signed = false) {a b : Nat} (ha : a < 2 ^ k.bits) (hb : b < 2 ^ k.bits) : bitI .xor k a b = ((a ^^^ b : Nat) : Int) := by
  show k.wrap _ = _
  rw [BitVec.toNat_xor, ofInt_nat, ofInt_nat, Nat.mod_eq_of_lt ha, Nat.mod_eq_of_lt hb, wrap_un_nat hk (Nat.xor_lt_two_pow ha hb)]
theorem or_shift {a b i : Nat} (h : a < 2 ^ i) : a ||| b * 2 ^ i = a + b * 2 ^ i := by
  have := Nat.shiftLeft_add_eq_or_of_lt h b
  rw [Nat.shiftLeft_eq] at this
  rw [Nat.or_comm, ← this, Nat.add_comm]
theorem and_127 (c : Nat) : c &&& 127 = c % 128 := Nat.and_two_pow_sub_one_eq_mod c 7
theorem fdiv_nat (a b : Nat) : (a : Int).fdiv (b : Int) = ((a / b : Nat) : Int) := by
  rw [Int.fdiv_eq_ediv_of_nonneg _ (by omega)]; rfl
theorem shr_nat {k : IntKind} (a : Nat) {n : Int} {m : Nat} (hn : n = (m : Int)) (h : m ≤ k.bits) : (a : Int).fdiv (2 ^ (min n.toNat k.bits)) = ((a / 2 ^ m : Nat) : Int) := by
  subst hn
  rw [Int.toNat_natCast, Nat.min_eq_left h]
  have : ((2 : Int) ^ m) = ((2 ^ m : Nat) : Int) := by simp
  rw [this, fdiv_nat]
theorem shl_nat {k : IntKind} (hk : k.signed = false) {a : Nat} {n : Int} {m : Nat} (hn : n = (m : Int)) (h : m ≤ k.bits) (hl : a * 2 ^ m < 2 ^ k.bits) : k.wrap ((a : Int) * 2 ^ (min n.toNat k.bits)) = ((a * 2 ^ m : Nat) : Int) := by
  subst hn
  rw [Int.toNat_natCast, Nat.min_eq_left h]
  have : (a : Int) * (2 : Int) ^ m = ((a * 2 ^ m : Nat) : Int) := by simp
  rw [this, wrap_un_nat hk hl]

/-- The unsigned number as which a signed one is written. -/
def zzN (x : Int) : Nat := if 0 ≤ x then (2 * x).toNat else (-2 * x - 1).toNat
def zzI (n : Nat) : Int := if n % 2 = 0 then ((n / 2 : Nat) : Int) else -((n / 2 : Nat) : Int) - 1
theorem zzN_lt {x : Int} (h1 : -9223372036854775808 ≤ x) (h2 : x < 9223372036854775808) : zzN x < 2 ^ 64 := by unfold zzN; split <;> omega
theorem zzI_zzN (x : Int) : zzI (zzN x) = x := by unfold zzI zzN; split <;> split <;> omega
theorem zzN_zzI (n : Nat) : zzN (zzI n) = n := by unfold zzI zzN; split <;> split <;> omega
theorem zzI_range {n : Nat} (h : n < 2 ^ 64) : -9223372036854775808 ≤ zzI n ∧ zzI n < 9223372036854775808 := by unfold zzI; split <;> omega
theorem zz_go {x : Int} (h1 : -9223372036854775808 ≤ x) (h2 : x < 9223372036854775808) :
    bitI .xor .u64 (IntKind.u64.wrap (IntKind.u64.wrap x * 2 ^ (min (1 : Int).toNat IntKind.u64.bits))) (IntKind.u64.wrap (x.fdiv (2 ^ (min (63 : Int).toNat IntKind.i64.bits)))) = (zzN x : Int) := by
  have e1 : (2 : Int) ^ (min (1 : Int).toNat IntKind.u64.bits) = 2 := rfl
  have e2 : (2 : Int) ^ (min (63 : Int).toNat IntKind.i64.bits) = 9223372036854775808 := rfl
  rw [e1, e2, wrap_u64_mod, wrap_u64_mod, wrap_u64_mod]
  by_cases hx : 0 ≤ x
  · obtain ⟨n, rfl⟩ := Int.eq_ofNat_of_zero_le hx
    have h3 : ((n : Int) % 18446744073709551616 * 2) % 18446744073709551616 = ((2 * n : Nat) : Int) := by omega
    have h4 : (n : Int).fdiv 9223372036854775808 % 18446744073709551616 = ((0 : Nat) : Int) := by
      rw [Int.fdiv_eq_ediv_of_nonneg _ (by omega)]; omega
    have e3 : zzN (n : Int) = 2 * n := by unfold zzN; rw [if_pos hx]; omega
    rw [h3, h4, bit_xor rfl (by show _ < 2 ^ 64; omega) (by decide), Nat.xor_zero, e3]
  · obtain ⟨m, rfl⟩ : ∃ m : Nat, x = -(m : Int) - 1 := ⟨(-x - 1).toNat, by omega⟩
    have h3 : ((-(m : Int) - 1) % 18446744073709551616 * 2) % 18446744073709551616 = ((18446744073709551614 - 2 * m : Nat) : Int) := by omega
    have h4 : (-(m : Int) - 1).fdiv 9223372036854775808 % 18446744073709551616 = ((18446744073709551615 : Nat) : Int) := by
      rw [Int.fdiv_eq_ediv_of_nonneg _ (by omega)]; omega
    have e3 : zzN (-(m : Int) - 1) = 2 * m + 1 := by unfold zzN; rw [if_neg hx]; omega
    rw [h3, h4, bit_xor rfl (by show _ < 2 ^ 64; omega) (by decide), e3]
    have h5 : (18446744073709551614 - 2 * m) ^^^ 18446744073709551615 = 2 * m + 1 := by
      have k1 : (BitVec.ofNat 64 (18446744073709551614 - 2 * m) ^^^ BitVec.allOnes 64).toNat = 2 * m + 1 := by
        rw [BitVec.xor_allOnes, BitVec.toNat_not, BitVec.toNat_ofNat, Nat.mod_eq_of_lt (by omega)]
        omega
      rw [BitVec.toNat_xor, BitVec.toNat_ofNat, Nat.mod_eq_of_lt (by omega)] at k1
      exact k1
    rw [h5]
theorem unzz_go {u : Nat} (h : u < 2 ^ 64) :
    bitI .xor .i64 (IntKind.i64.wrap ((u : Int).fdiv (2 ^ (min (1 : Int).toNat IntKind.u64.bits)))) (IntKind.i64.wrap (0 - IntKind.i64.wrap (bitI .and .u64 u 1))) = zzI u := by
  have e1 : (2 : Int) ^ (min (1 : Int).toNat IntKind.u64.bits) = ((2 : Nat) : Int) := rfl
  have e2 : bitI .and .u64 (u : Int) 1 = ((u % 2 : Nat) : Int) := by
    have := bit_and (k := .u64) rfl (a := u) (b := 1) h (by decide)
    rw [show ((1 : Nat) : Int) = 1 from rfl] at this
    rw [this, Nat.and_one_is_mod]
  rw [e1, fdiv_nat, e2, wrap_i64 (by omega) (by omega), wrap_i64 (x := ((u % 2 : Nat) : Int)) (by omega) (by omega), wrap_i64 (by omega) (by omega)]
  unfold zzI
  by_cases hp : u % 2 = 0
  · rw [if_pos hp, hp]
    show IntKind.i64.wrap (BitVec.ofInt 64 ((u / 2 : Nat) : Int) ^^^ BitVec.ofInt 64 0).toNat = _
    have : BitVec.ofInt 64 0 = 0#64 := rfl
    rw [this, BitVec.xor_zero, ofInt_nat, Nat.mod_eq_of_lt (by omega), wrap_i64 (by omega) (by omega)]
  · have hp1 : u % 2 = 1 := by omega
    rw [if_neg hp, hp1]
    show IntKind.i64.wrap (BitVec.ofInt 64 ((u / 2 : Nat) : Int) ^^^ BitVec.ofInt 64 (-1)).toNat = _
    have : BitVec.ofInt 64 (-1) = BitVec.allOnes 64 := by decide
    rw [this, BitVec.xor_allOnes, BitVec.toNat_not, ofInt_nat, Nat.mod_eq_of_lt (by omega)]
    unfold IntKind.wrap
    simp [IntKind.bits, IntKind.signed]
    omega
end Go.Lv
