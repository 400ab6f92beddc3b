/- Plain lemmas on numbers of 32 and 64 bits that are turned and mixed. Conditions: as each lemma says. -/
import Derived.Test.YtclgnefeankbgaaHPure
namespace Go.Proofs.Ytclgnefeankbgaa.Hand
open Go Go.RowKit Go.Proofs.YtclgnefeankbgaaW.PrintWords
set_option linter.unusedVariables false
/-- Exclusive or, and or, of whole numbers from 0 on. -/
def xr (a b : Int) : Int := ((a.toNat ^^^ b.toNat : Nat) : Int)
def og (a b : Int) : Int := ((a.toNat ||| b.toNat : Nat) : Int)
theorem ofInt32 (a : Int) : (BitVec.ofInt 32 a).toNat = (a % 4294967296).toNat := by rw [BitVec.toNat_ofInt]; rfl
theorem xr_bd {a b : Int} (n : Nat) (ha : a < 2 ^ n) (hb : b < 2 ^ n) (ha0 : 0 ≤ a) (hb0 : 0 ≤ b) : 0 ≤ xr a b ∧ xr a b < 2 ^ n := by
  have e := p2 n
  have := Nat.xor_lt_two_pow (n := n) (x := a.toNat) (y := b.toNat) (by omega) (by omega)
  unfold xr; omega
theorem og_bd {a b : Int} (n : Nat) (ha : a < 2 ^ n) (hb : b < 2 ^ n) (ha0 : 0 ≤ a) (hb0 : 0 ≤ b) : 0 ≤ og a b ∧ og a b < 2 ^ n := by
  have e := p2 n
  have := Nat.or_lt_two_pow (n := n) (x := a.toNat) (y := b.toNat) (by omega) (by omega)
  unfold og; omega
theorem xr32 {a b : Int} (h1 : 0 ≤ a) (h2 : a < 4294967296) (h3 : 0 ≤ b) (h4 : b < 4294967296) : 0 ≤ xr a b ∧ xr a b < 4294967296 := xr_bd 32 h2 h4 h1 h3
theorem og32 {a b : Int} (h1 : 0 ≤ a) (h2 : a < 4294967296) (h3 : 0 ≤ b) (h4 : b < 4294967296) : 0 ≤ og a b ∧ og a b < 4294967296 := og_bd 32 h2 h4 h1 h3
theorem xr64 {a b : Int} (h1 : 0 ≤ a) (h2 : a < 18446744073709551616) (h3 : 0 ≤ b) (h4 : b < 18446744073709551616) : 0 ≤ xr a b ∧ xr a b < 18446744073709551616 := xr_bd 64 h2 h4 h1 h3
theorem og64 {a b : Int} (h1 : 0 ≤ a) (h2 : a < 18446744073709551616) (h3 : 0 ≤ b) (h4 : b < 18446744073709551616) : 0 ≤ og a b ∧ og a b < 18446744073709551616 := og_bd 64 h2 h4 h1 h3
theorem xor_u32 {a b : Int} (h1 : 0 ≤ a) (h2 : a < 4294967296) (h3 : 0 ≤ b) (h4 : b < 4294967296) : Go.bits .xor .u32 a b = xr a b := by
  have h := xr32 h1 h2 h3 h4
  simp only [Go.bits, BitVec.toNat_xor]
  rw [show IntKind.u32.bits = 32 from rfl, ofInt32, ofInt32, Int.emod_eq_of_lt h1 h2, Int.emod_eq_of_lt h3 h4, IntKind.wrap_u32]
  exact Int.emod_eq_of_lt h.1 h.2
theorem or_u32 {a b : Int} (h1 : 0 ≤ a) (h2 : a < 4294967296) (h3 : 0 ≤ b) (h4 : b < 4294967296) : Go.bits .or .u32 a b = og a b := by
  have h := og32 h1 h2 h3 h4
  simp only [Go.bits, BitVec.toNat_or]
  rw [show IntKind.u32.bits = 32 from rfl, ofInt32, ofInt32, Int.emod_eq_of_lt h1 h2, Int.emod_eq_of_lt h3 h4, IntKind.wrap_u32]
  exact Int.emod_eq_of_lt h.1 h.2
theorem xor_u64 {a b : Int} (h1 : 0 ≤ a) (h2 : a < 18446744073709551616) (h3 : 0 ≤ b) (h4 : b < 18446744073709551616) : Go.bits .xor .u64 a b = xr a b := by
  have h := xr64 h1 h2 h3 h4
  simp only [Go.bits, BitVec.toNat_xor]
  rw [show IntKind.u64.bits = 64 from rfl, ofInt64, ofInt64, Int.emod_eq_of_lt h1 h2, Int.emod_eq_of_lt h3 h4, IntKind.wrap_u64]
  exact Int.emod_eq_of_lt h.1 h.2
theorem or_u64' {a b : Int} (h1 : 0 ≤ a) (h2 : a < 18446744073709551616) (h3 : 0 ≤ b) (h4 : b < 18446744073709551616) : Go.bits .or .u64 a b = og a b := by
  have h := og64 h1 h2 h3 h4
  simp only [Go.bits, BitVec.toNat_or]
  rw [show IntKind.u64.bits = 64 from rfl, ofInt64, ofInt64, Int.emod_eq_of_lt h1 h2, Int.emod_eq_of_lt h3 h4, IntKind.wrap_u64]
  exact Int.emod_eq_of_lt h.1 h.2
theorem xor_i64' {a b : Int} (h1 : 0 ≤ a) (h2 : a < 9223372036854775808) (h3 : 0 ≤ b) (h4 : b < 9223372036854775808) : Go.bits .xor .i64 a b = xr a b := xor_i64 a b h1 h2 h3 h4
theorem or_i64' {a b : Int} (h1 : 0 ≤ a) (h2 : a < 9223372036854775808) (h3 : 0 ≤ b) (h4 : b < 9223372036854775808) : Go.bits .or .i64 a b = og a b := or_i64 a b h1 h2 h3 h4
theorem word_i64 (a : Int) : Go.bits .and .i64 a 4294967295 = a % 4294967296 := and_i64_mask a 32 (by decide)
/-- Numbers of 32 and of 64 bits turned left. -/
def rot32 (n : Nat) (v : Int) : Int := og (v * 2 ^ n % 4294967296) (v / 2 ^ (32 - n))
def rot64 (n : Nat) (v : Int) : Int := og (v * 2 ^ n % 18446744073709551616) (v / 2 ^ (64 - n))
theorem rot32_bd {n : Nat} {v : Int} (h0 : 0 ≤ v) (h1 : v < 4294967296) : 0 ≤ rot32 n v ∧ rot32 n v < 4294967296 := by
  have hp := p2_pos (32 - n)
  have a := Int.ediv_nonneg h0 (Int.le_of_lt hp)
  have b := Int.ediv_le_self (2 ^ (32 - n)) h0
  exact og32 (Int.emod_nonneg _ (by decide)) (Int.emod_lt_of_pos _ (by decide)) a (by omega)
theorem rot64_bd {n : Nat} {v : Int} (h0 : 0 ≤ v) (h1 : v < 18446744073709551616) : 0 ≤ rot64 n v ∧ rot64 n v < 18446744073709551616 := by
  have hp := p2_pos (64 - n)
  have a := Int.ediv_nonneg h0 (Int.le_of_lt hp)
  have b := Int.ediv_le_self (2 ^ (64 - n)) h0
  exact og64 (Int.emod_nonneg _ (by decide)) (Int.emod_lt_of_pos _ (by decide)) a (by omega)
/-! Four numbers of sixteen, mixed. -/
def q1 (xa xb : Int) : Int := (xa + xb) % 4294967296
def qrL (xs : List Int) (a b c d : Nat) (a1 d1 c1 b1 a2 d2 c2 b2 : Int) : List Int := (((((((xs.set a a1).set d d1).set c c1).set b b1).set a a2).set d d2).set c c2).set b b2
def qr (xs : List Int) (a b c d : Nat) : List Int :=
  let xa := xs.getD a 0; let xb := xs.getD b 0; let xc := xs.getD c 0; let xd := xs.getD d 0
  let a1 := q1 xa xb; let d1 := rot32 16 (xr xd a1); let c1 := q1 xc d1; let b1 := rot32 12 (xr xb c1)
  let a2 := q1 a1 b1; let d2 := rot32 8 (xr d1 a2); let c2 := q1 c1 d2; let b2 := rot32 7 (xr b1 c2)
  qrL xs a b c d a1 d1 c1 b1 a2 d2 c2 b2
def W32 (x : Int) : Prop := 0 ≤ x ∧ x < 4294967296
theorem q1_bd (x y : Int) : W32 (q1 x y) := by unfold q1 W32; omega
theorem rx_bd {n : Nat} {x y : Int} (hx : W32 x) (hy : W32 y) : W32 (rot32 n (xr x y)) := by
  have h := xr32 hx.1 hx.2 hy.1 hy.2
  exact rot32_bd h.1 h.2
def Words (xs : List Int) : Prop := xs.length = 16 ∧ ∀ x ∈ xs, W32 x
theorem Words.at_ {xs : List Int} (h : Words xs) {i : Nat} (hi : i < 16) : W32 (xs.getD i 0) := by
  rw [List.getD_eq_getElem?_getD, List.getElem?_eq_getElem (by rw [h.1]; exact hi)]
  exact h.2 _ (List.getElem_mem _)
theorem Words.set_ {xs : List Int} (h : Words xs) (i : Nat) {v : Int} (hv : W32 v) : Words (xs.set i v) := by
  refine ⟨by rw [List.length_set]; exact h.1, fun x hx => ?_⟩
  rcases List.mem_or_eq_of_mem_set hx with hx | rfl
  · exact h.2 x hx
  · exact hv
theorem qr_words {xs : List Int} (h : Words xs) {a b c d : Nat} (ha : a < 16) (hb : b < 16) (hc : c < 16) (hd : d < 16) : Words (qr xs a b c d) := by
  have h1 := q1_bd (xs.getD a 0) (xs.getD b 0)
  have h2 := rx_bd (n := 16) (h.at_ hd) h1
  have h3 := q1_bd (xs.getD c 0) (rot32 16 (xr (xs.getD d 0) (q1 (xs.getD a 0) (xs.getD b 0))))
  have h4 := rx_bd (n := 12) (h.at_ hb) h3
  unfold qr qrL
  exact (((((((h.set_ a h1).set_ d h2).set_ c h3).set_ b h4).set_ a (q1_bd _ _)).set_ d (rx_bd h2 (q1_bd _ _))).set_ c (q1_bd _ _)).set_ b (rx_bd h4 (q1_bd _ _))
/-- One round over columns, one over diagonals; ten of both. -/
def cols (xs : List Int) : List Int := qr (qr (qr (qr xs 0 4 8 12) 1 5 9 13) 2 6 10 14) 3 7 11 15
def diags (xs : List Int) : List Int := qr (qr (qr (qr xs 0 5 10 15) 1 6 11 12) 2 7 8 13) 3 4 9 14
def rounds : Nat → List Int → List Int
  | 0, xs => xs
  | n + 1, xs => rounds n (diags (cols xs))
theorem cols_words {xs : List Int} (h : Words xs) : Words (cols xs) := qr_words (qr_words (qr_words (qr_words h (by decide) (by decide) (by decide) (by decide)) (by decide) (by decide) (by decide) (by decide)) (by decide) (by decide) (by decide) (by decide)) (by decide) (by decide) (by decide) (by decide)
theorem diags_words {xs : List Int} (h : Words xs) : Words (diags xs) := qr_words (qr_words (qr_words (qr_words h (by decide) (by decide) (by decide) (by decide)) (by decide) (by decide) (by decide) (by decide)) (by decide) (by decide) (by decide) (by decide)) (by decide) (by decide) (by decide) (by decide)
theorem rounds_words : ∀ (n : Nat) {xs : List Int}, Words xs → Words (rounds n xs)
  | 0, _, h => h
  | n + 1, _, h => rounds_words n (diags_words (cols_words h))
end Go.Proofs.Ytclgnefeankbgaa.Hand
