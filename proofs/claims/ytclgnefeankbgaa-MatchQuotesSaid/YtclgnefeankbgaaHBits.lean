/- Plain lemmas on the bits of whole numbers. Conditions: as each lemma says. -/
import Derived.Laws.BitsLemmas
import Derived.Laws.Bits64
import Derived.Laws.BitsAllLaws
import Derived.RowKit
namespace Go.Proofs.Ytclgnefeankbgaa.Hand
open Go
theorem ofInt_nat64 (a : Nat) (h : a < 18446744073709551616) : (BitVec.ofInt 64 (a : Int)).toNat = a := by
  simp [BitVec.ofInt_natCast, BitVec.toNat_ofNat]; omega
theorem ofInt64 (a : Int) : (BitVec.ofInt 64 a).toNat = (a % 18446744073709551616).toNat := by
  rw [BitVec.toNat_ofInt]; rfl
theorem wrap_i64_small (n : Int) (h0 : 0 ≤ n) (h1 : n < 9223372036854775808) : IntKind.i64.wrap n = n := by rw [IntKind.wrap_i64]; omega
theorem bits_and_i64 (a b : Int) : Go.bits .and .i64 a b = IntKind.i64.wrap (((a % 18446744073709551616).toNat &&& (b % 18446744073709551616).toNat : Nat) : Int) := by
  simp only [Go.bits, BitVec.toNat_and]
  rw [show IntKind.i64.bits = 64 from rfl, ofInt64, ofInt64]
theorem and_i64_mask (a : Int) (k : Nat) (hk : k ≤ 62) : Go.bits .and .i64 a (2 ^ k - 1 : Nat) = a % (2 ^ k : Nat) := by
  have hp : (2 : Nat) ^ k ≤ 2 ^ 62 := Nat.pow_le_pow_right (by decide) hk
  have hpos : 0 < (2 : Nat) ^ k := Nat.two_pow_pos k
  have hn : (2:Nat) ^ 62 = 4611686018427387904 := by decide
  rw [bits_and_i64, show (((2 ^ k - 1 : Nat) : Int) % 18446744073709551616).toNat = 2 ^ k - 1 by omega, Nat.and_two_pow_sub_one_eq_mod]
  have hlt : (a % 18446744073709551616).toNat % 2 ^ k < 2 ^ k := Nat.mod_lt _ hpos
  rw [wrap_i64_small _ (by omega) (by omega)]
  have e : ((a % 18446744073709551616).toNat : Int) = a % 18446744073709551616 := by omega
  rw [Int.natCast_emod, e]
  have hd : ((2 ^ k : Nat) : Int) ∣ 18446744073709551616 := by
    refine ⟨(2 ^ (64 - k) : Nat), ?_⟩
    rw [← Int.natCast_mul, ← Nat.pow_add, show k + (64 - k) = 64 by omega]
    decide
  exact Int.emod_emod_of_dvd _ hd
theorem xor_i64 (a b : Int) (h1 : 0 ≤ a) (h2 : a < 9223372036854775808) (h3 : 0 ≤ b) (h4 : b < 9223372036854775808) : Go.bits .xor .i64 a b = ((a.toNat ^^^ b.toNat : Nat) : Int) := by
  simp only [Go.bits, BitVec.toNat_xor]
  rw [show IntKind.i64.bits = 64 from rfl, ofInt64, ofInt64, Int.emod_eq_of_lt h1 (by omega), Int.emod_eq_of_lt h3 (by omega)]
  refine wrap_i64_small _ (by omega) ?_
  have := Nat.xor_lt_two_pow (n := 63) (x := a.toNat) (y := b.toNat) (by omega) (by omega)
  omega
theorem or_i64 (a b : Int) (h1 : 0 ≤ a) (h2 : a < 9223372036854775808) (h3 : 0 ≤ b) (h4 : b < 9223372036854775808) : Go.bits .or .i64 a b = ((a.toNat ||| b.toNat : Nat) : Int) := by
  simp only [Go.bits, BitVec.toNat_or]
  rw [show IntKind.i64.bits = 64 from rfl, ofInt64, ofInt64, Int.emod_eq_of_lt h1 (by omega), Int.emod_eq_of_lt h3 (by omega)]
  refine wrap_i64_small _ (by omega) ?_
  have := Nat.or_lt_two_pow (n := 63) (x := a.toNat) (y := b.toNat) (by omega) (by omega)
  omega
theorem and_i64 (a b : Int) (h1 : 0 ≤ a) (h2 : a < 9223372036854775808) (h3 : 0 ≤ b) (h4 : b < 9223372036854775808) : Go.bits .and .i64 a b = ((a.toNat &&& b.toNat : Nat) : Int) := by
  rw [bits_and_i64, Int.emod_eq_of_lt h1 (by omega), Int.emod_eq_of_lt h3 (by omega)]
  refine wrap_i64_small _ (by omega) ?_
  have := Nat.and_lt_two_pow (n := 63) a.toNat (y := b.toNat) (by omega)
  omega
/-- '^x': all bits turned. -/
theorem not_i64 (a : Int) (h1 : -9223372036854775808 ≤ a) (h2 : a < 9223372036854775808) : Go.bits .xor .i64 (-1) a = -a - 1 := by
  simp only [Go.bits, BitVec.toNat_xor]
  rw [show IntKind.i64.bits = 64 from rfl, ofInt64, ofInt64]
  rw [show ((-1 : Int) % 18446744073709551616).toNat = 2 ^ 64 - 1 by decide]
  have hx : ∀ x : Nat, x < 2 ^ 64 → (2 ^ 64 - 1) ^^^ x = 2 ^ 64 - 1 - x := fun x hx => by
    have := BitVec.toNat_not (x := BitVec.ofNat 64 x)
    have h2 : (~~~ (BitVec.ofNat 64 x)) = BitVec.allOnes 64 ^^^ BitVec.ofNat 64 x := (BitVec.allOnes_xor).symm
    rw [h2, BitVec.toNat_xor, BitVec.toNat_allOnes, BitVec.toNat_ofNat, Nat.mod_eq_of_lt hx] at this
    exact this
  rw [hx _ (by omega), IntKind.wrap_i64]
  omega
end Go.Proofs.Ytclgnefeankbgaa.Hand
