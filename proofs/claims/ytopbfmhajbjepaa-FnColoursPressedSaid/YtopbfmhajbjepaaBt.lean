/- Sets as numbers: what the operations on int make of natural numbers. -/
import Derived.Test.YtopbfmhajbjepaaFw16
namespace Go.Proofs.Ytopbfmhajbjepaa
open Go

theorem wrap64_nat {n : Nat} (h : n < 9223372036854775808) : IntKind.i64.wrap (n : Int) = n := wrap_i64 (by omega) (by omega)

theorem ofInt_nat (n : Nat) : (BitVec.ofInt 64 (n : Int)).toNat = n % 18446744073709551616 := by
  rw [BitVec.toNat_ofInt]; simp; omega

theorem ofInt_lt {n : Nat} (h : n < 9223372036854775808) : (BitVec.ofInt 64 (n : Int)).toNat = n := by
  rw [ofInt_nat]; omega

theorem and_lt63 {a b : Nat} (h : a < 9223372036854775808) : a &&& b < 9223372036854775808 := Nat.lt_of_le_of_lt Nat.and_le_left h
theorem or_lt63 {a b : Nat} (h : a < 9223372036854775808) (k : b < 9223372036854775808) : a ||| b < 9223372036854775808 := Nat.or_lt_two_pow (n := 63) h k
theorem xor_lt63 {a b : Nat} (h : a < 9223372036854775808) (k : b < 9223372036854775808) : a ^^^ b < 9223372036854775808 := Nat.xor_lt_two_pow (n := 63) h k

@[go_sem] theorem i_and {a b : Nat} (h : a < 9223372036854775808) (k : b < 9223372036854775808) : iand .i64 (a : Int) (b : Int) = ((a &&& b : Nat) : Int) := by
  show IntKind.i64.wrap ((BitVec.ofInt 64 (a : Int) &&& BitVec.ofInt 64 (b : Int)).toNat : Int) = _
  rw [BitVec.toNat_and, ofInt_lt h, ofInt_lt k]
  exact wrap64_nat (and_lt63 h)
@[go_sem] theorem i_or {a b : Nat} (h : a < 9223372036854775808) (k : b < 9223372036854775808) : ior .i64 (a : Int) (b : Int) = ((a ||| b : Nat) : Int) := by
  show IntKind.i64.wrap ((BitVec.ofInt 64 (a : Int) ||| BitVec.ofInt 64 (b : Int)).toNat : Int) = _
  rw [BitVec.toNat_or, ofInt_lt h, ofInt_lt k]
  exact wrap64_nat (or_lt63 h k)
@[go_sem] theorem i_xor {a b : Nat} (h : a < 9223372036854775808) (k : b < 9223372036854775808) : ixor .i64 (a : Int) (b : Int) = ((a ^^^ b : Nat) : Int) := by
  show IntKind.i64.wrap ((BitVec.ofInt 64 (a : Int) ^^^ BitVec.ofInt 64 (b : Int)).toNat : Int) = _
  rw [BitVec.toNat_xor, ofInt_lt h, ofInt_lt k]
  exact wrap64_nat (xor_lt63 h k)
theorem i_shl {a j : Nat} (h : j < 64) (k : a * 2 ^ j < 9223372036854775808) : ishl .i64 (a : Int) (j : Int) = ((a * 2 ^ j : Nat) : Int) := by
  show IntKind.i64.wrap ((a : Int) * 2 ^ (min (j : Int).toNat 64)) = _
  have e : min (j : Int).toNat 64 = j := by omega
  rw [e]
  have : (a : Int) * 2 ^ j = ((a * 2 ^ j : Nat) : Int) := by simp
  rw [this]
  exact wrap64_nat k
theorem i_shr {a j : Nat} (h : j < 64) : ishr .i64 (a : Int) (j : Int) = ((a / 2 ^ j : Nat) : Int) := by
  show (a : Int).fdiv (2 ^ (min (j : Int).toNat 64)) = _
  have e : min (j : Int).toNat 64 = j := by omega
  rw [e]
  have : (2 : Int) ^ j = ((2 ^ j : Nat) : Int) := by simp
  rw [this, Int.fdiv_eq_ediv_of_nonneg _ (Int.natCast_nonneg _)]
  rfl

theorem testBit_shr (a j : Nat) : ((a / 2 ^ j) &&& 1 = 1) ↔ a.testBit j = true := by
  rw [Nat.testBit_eq_decide_div_mod_eq, Nat.and_one_is_mod]; simp
theorem testBit_mod (a j : Nat) : ((a / 2 ^ j) % 2 = 1) ↔ a.testBit j = true := by
  rw [Nat.testBit_eq_decide_div_mod_eq]; simp

theorem two_pow_lt {j : Nat} (h : j < 63) : 2 ^ j < 9223372036854775808 := Nat.pow_lt_pow_right (a := 2) (by omega) (show j < 63 from h)
@[go_sem] theorem one_shl {j : Nat} (h : j < 63) : ishl .i64 1 (j : Int) = ((2 ^ j : Nat) : Int) := by
  have := i_shl (a := 1) (j := j) (by omega) (by rw [Nat.one_mul]; exact two_pow_lt h)
  rw [Nat.one_mul] at this
  exact this

@[go_sem] theorem i_and_one {a : Nat} (h : a < 9223372036854775808) : iand .i64 (a : Int) 1 = ((a % 2 : Nat) : Int) := by
  have := i_and (a := a) (b := 1) h (by omega)
  rw [Nat.and_one_is_mod] at this
  exact this

theorem div_lt63 {a j : Nat} (h : a < 9223372036854775808) : a / 2 ^ j < 9223372036854775808 := Nat.lt_of_le_of_lt (Nat.div_le_self _ _) h

@[go_sem] theorem has_val {s i : Nat} (hs : s < 9223372036854775808) (hi : i < 64) :
    decide (iand .i64 (ishr .i64 (s : Int) (i : Int)) 1 = 1) = s.testBit i := by
  rw [i_shr hi, i_and_one (div_lt63 hs), Nat.testBit_eq_decide_div_mod_eq]
  generalize s / 2 ^ i = q
  rw [Bool.eq_iff_iff, decide_eq_true_eq, decide_eq_true_eq]; omega
@[go_sem] theorem grin_val {s i : Nat} (hi : i < 64) : decide ((ishr .i64 (s : Int) (i : Int)).tmod 2 = 1) = s.testBit i := by
  rw [i_shr hi, Nat.testBit_eq_decide_div_mod_eq]
  generalize s / 2 ^ i = q
  rw [Bool.eq_iff_iff, decide_eq_true_eq, decide_eq_true_eq, Int.tmod_eq_emod_of_nonneg (by omega)]; omega

/-- Sets of buttons: the number of all of n. -/
@[go_sem] theorem whole_val {n : Nat} (h : n < 63) : IntKind.i64.wrap ((2 ^ n : Nat) - 1 : Int) = ((2 ^ n - 1 : Nat) : Int) := by
  have h1 := Nat.one_le_two_pow (n := n)
  have h2 := two_pow_lt h
  rw [show ((2 ^ n : Nat) : Int) - 1 = ((2 ^ n - 1 : Nat) : Int) by omega]
  exact wrap64_nat (by omega)

theorem or_pow_testBit (a i j : Nat) : (a ||| 2 ^ i).testBit j = (a.testBit j || decide (i = j)) := by
  rw [Nat.testBit_or, Nat.testBit_two_pow]
theorem xor_pow_testBit (a i j : Nat) : (a ^^^ 2 ^ i).testBit j = (a.testBit j != decide (i = j)) := by
  rw [Nat.testBit_xor, Nat.testBit_two_pow]

theorem lt_pow_of_bits {a n : Nat} (h : ∀ j, a.testBit j = true → j < n) : a < 2 ^ n := by
  apply Nat.lt_pow_two_of_testBit
  intro j hj
  cases e : a.testBit j
  · rfl
  · have := h j e; omega
theorem bits_of_lt_pow {a n j : Nat} (h : a < 2 ^ n) (hj : a.testBit j = true) : j < n := by
  rcases Nat.lt_or_ge j n with k | k
  · exact k
  · rw [Nat.testBit_lt_two_pow (Nat.lt_of_lt_of_le h (Nat.pow_le_pow_right (by omega) k))] at hj; cases hj

end Go.Proofs.Ytopbfmhajbjepaa
