/- Plain facts on ordered numbers: the program's bits are the document's sums. Conditions: as each theorem states them. -/
import Derived.Test.YtgpmceimhfkncaaU0
import Derived.Test.YtgpmceimhfkncaaPWindowTextx2
import Derived.Laws.Bits64
import Derived.Laws.Bits64b
namespace Go.Proofs.Ytgpmceimhfkncaa.WT
open Go.RowKit Go.Proofs.Ytgpmceimhfkncaa Go.Proofs.Ytgpmceimhfkncaa.PWindowText Go.Proofs.YtgpmceimhfkncaaW.PrintWords Go.Proofs.YtgpmceimhfkncaaW.PrintLast Go.Proofs.YtgpmceimhfkncaaW.PrintMore
set_option linter.unusedVariables false
set_option linter.unusedSimpArgs false

theorem xor_low (b : Nat) (h : b < 2 ^ 63) : b ^^^ 2 ^ 63 = 2 ^ 63 + b := by
  apply Nat.eq_of_testBit_eq
  intro j
  rw [Nat.testBit_xor, Nat.testBit_two_pow]
  rcases Nat.lt_trichotomy j 63 with hj | hj | hj
  · rw [Nat.testBit_two_pow_add_gt hj, decide_eq_false (by omega), Bool.xor_false]
  · subst hj
    rw [Nat.testBit_two_pow_add_eq]
    simp
  · have h64 : 2 ^ 64 ≤ 2 ^ j := Nat.pow_le_pow_right (by decide) (by omega)
    rw [Nat.testBit_lt_two_pow (show b < 2 ^ j by omega), Nat.testBit_lt_two_pow (show 2 ^ 63 + b < 2 ^ j by omega), decide_eq_false (by omega)]
    rfl
theorem xor_top (a : Nat) (h : a < 18446744073709551616) : a ^^^ 9223372036854775808 = (a + 9223372036854775808) % 18446744073709551616 := by
  by_cases h1 : a < 9223372036854775808
  · have := xor_low a (by simpa using h1)
    rw [show (9223372036854775808 : Nat) = 2 ^ 63 by decide, this]
    omega
  · have h2 := xor_low (a - 9223372036854775808) (by simp; omega)
    have h3 : a = (a - 9223372036854775808) ^^^ 2 ^ 63 := by rw [h2]; simp; omega
    have h4 : a ^^^ 9223372036854775808 = a - 9223372036854775808 := by
      rw [show (9223372036854775808 : Nat) = 2 ^ 63 by decide] at h3 ⊢
      conv => lhs; rw [h3]
      rw [Nat.xor_assoc, Nat.xor_self, Nat.xor_zero]
    rw [h4]
    omega
theorem xor_wrap (x : Int) (h0 : 0 ≤ x) (h1 : x < 18446744073709551616) : Go.bits BinOp.xor IntKind.u64 x 9223372036854775808 = (x + 9223372036854775808) % 18446744073709551616 := by
  obtain ⟨a, rfl⟩ : ∃ a : Nat, x = (a : Int) := ⟨x.toNat, by omega⟩
  have := bits_xor_u64_nat a 9223372036854775808 (by omega) (by decide)
  rw [show ((9223372036854775808 : Nat) : Int) = 9223372036854775808 from rfl] at this
  rw [this, xor_top a (by omega)]
  omega
theorem or_wrap (x b : Int) (h0 : 0 ≤ x) (hb0 : 0 ≤ b) (hb : b < 256) : Go.bits BinOp.or IntKind.u64 ((x * 256) % 18446744073709551616) b = (x * 256) % 18446744073709551616 + b := by
  obtain ⟨m, hm⟩ : ∃ m : Nat, (x * 256) % 18446744073709551616 = ((2 ^ 8 * m : Nat) : Int) := ⟨(x % 72057594037927936).toNat, by omega⟩
  obtain ⟨c, rfl⟩ : ∃ c : Nat, b = (c : Int) := ⟨b.toNat, by omega⟩
  rw [hm, bits_or_u64_nat _ _ (by omega) (by omega), ← Nat.two_pow_add_eq_or_of_lt (by simpa using (by omega : c < 256)) m]
  omega
end Go.Proofs.Ytgpmceimhfkncaa.WT
