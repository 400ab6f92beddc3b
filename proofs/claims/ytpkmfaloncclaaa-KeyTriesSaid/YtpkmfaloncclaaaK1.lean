/- The stream of a key in plain Lean: the reference's block is the program's, and so is its stream. Conditions: the bytes are bytes, the lengths right. -/
import Derived.Test.YtpkmfaloncclaaaKx2
import Derived.Test.YtpkmfaloncclaaaKx4
import Derived.Test.YtpkmfaloncclaaaKx5
import Derived.Test.YtpkmfaloncclaaaKx6
import Derived.Test.YtpkmfaloncclaaaKx8
import Derived.Test.YtpkmfaloncclaaaHKey
namespace Go.Proofs.Ytpkmfaloncclaaa.Pure
open Go Go.RowKit Go.Proofs.Ytpkmfaloncclaaa.K Go.Proofs.YtpkmfaloncclaaaW.PrintWords Go.Proofs.YtpkmfaloncclaaaW.PrintLast Go.Proofs.YtpkmfaloncclaaaW.PrintMore Hand
set_option linter.unusedVariables false
theorem rd_nat (l : List Int) (i : Nat) : rd l (i : Int) = l.getD i 0 := by simp [rd]
theorem getD_set_eq {l : List Int} {i : Nat} (v : Int) (h : i < l.length) : (l.set i v).getD i 0 = v := by simp [List.getD_eq_getElem?_getD, h]
theorem getD_set_ne {l : List Int} {i j : Nat} (v : Int) (h : i ≠ j) : (l.set i v).getD j 0 = l.getD j 0 := by simp [List.getD_eq_getElem?_getD, List.getElem?_set_ne h]
theorem rword (x : Int) : wireglassref21_word.f x = some (x % 4294967296) := by unfold wireglassref21_word.f; rw [word_i64]
theorem pow_le16 {n : Nat} (h : n ≤ 16) : (1 : Int) ≤ 2 ^ n ∧ (2 : Int) ^ n ≤ 65536 := ⟨by have := p2_pos n; omega, by have := p2_le h; simpa using this⟩
theorem rturned {x : Int} (h : W32 x) (n : Nat) (hn : n ≤ 16) (hn0 : 0 < n) : wireglassref21_turned.f x (n : Int) = some (rot32 n x) := by
  obtain ⟨h0, h1⟩ := h
  have hp := pow_le16 hn
  have hm : 0 ≤ x * 2 ^ n ∧ x * 2 ^ n < 9223372036854775808 := by
    have a := Int.mul_nonneg h0 (show (0 : Int) ≤ 2 ^ n by omega)
    have b := Int.mul_le_mul (show x ≤ 4294967296 by omega) hp.2 (by omega) (by decide)
    omega
  have hs : shl .i64 x (n : Int) = x * 2 ^ n := by
    unfold shl
    have e : min (n : Int).toNat IntKind.i64.bits = n := by rw [Int.toNat_natCast]; exact Nat.min_eq_left (by have : IntKind.i64.bits = 64 := rfl; omega)
    rw [e, IntKind.wrap_i64]
    generalize x * 2 ^ n = y at hm
    omega
  have hq : wrap64 (32 - (n : Int)) = ((32 - n : Nat) : Int) := by rw [w64 (by omega) (by omega)]; omega
  unfold wireglassref21_turned.f
  rw [if_pos (by omega), hs, rword]
  simp only [Option.bind_some]
  rw [hq, if_pos (by omega), shr_eq (by have : IntKind.i64.bits = 64 := rfl; omega)]
  have hd0 : 0 ≤ x / 2 ^ (32 - n) := Int.ediv_nonneg h0 (Int.le_of_lt (p2_pos _))
  have hd1 : x / 2 ^ (32 - n) ≤ x := Int.ediv_le_self _ h0
  rw [or_i64' (Int.emod_nonneg _ (by decide)) (by have := Int.emod_lt_of_pos (x * 2 ^ n) (show (0 : Int) < 4294967296 by decide); omega) hd0 (by omega)]
  rfl
theorem xr_w {x y : Int} (hx : W32 x) (hy : W32 y) : Go.bits .xor .i64 x y = xr x y ∧ W32 (xr x y) := by
  have h := xr32 hx.1 hx.2 hy.1 hy.2
  exact ⟨xor_i64' hx.1 (by have := hx.2; omega) hy.1 (by have := hy.2; omega), h⟩
theorem sum_w {x y : Int} (hx : W32 x) (hy : W32 y) : wireglassref21_word.f (wrap64 (x + y)) = some (q1 x y) := by
  obtain ⟨a, b⟩ := hx
  obtain ⟨c, d⟩ := hy
  rw [w64 (by omega) (by omega), rword]; rfl
theorem rturn_x {x y : Int} (n : Nat) (hx : W32 x) (hy : W32 y) (hn : n ≤ 16) (hn0 : 0 < n) : wireglassref21_turned.f (Go.bits .xor .i64 x y) (n : Int) = some (rot32 n (xr x y)) := by
  rw [(xr_w hx hy).1, rturned (xr_w hx hy).2 n hn hn0]
theorem rquarter {xs : List Int} (h : Words xs) {a b c d : Nat} (ha : a < 16) (hb : b < 16) (hc : c < 16) (hd : d < 16) (hne : (a ≠ b ∧ a ≠ c ∧ a ≠ d) ∧ (b ≠ c ∧ b ≠ d) ∧ c ≠ d) :
    wireglassref21_quarter.f xs (a : Int) (b : Int) (c : Int) (d : Int) = some (qr xs a b c d) := by
  obtain ⟨⟨nab, nac, nad⟩, ⟨nbc, nbd⟩, ncd⟩ := hne
  have hl := h.1
  have wa := h.at_ ha
  have wb := h.at_ hb
  have wc := h.at_ hc
  have wd := h.at_ hd
  unfold wireglassref21_quarter.f
  simp only [rd_nat, Int.toNat_natCast]
  rw [if_pos (by omega), if_pos (by omega), if_pos (by omega), if_pos (by omega), sum_w wa wb]
  rw [Option.bind_some, Option.bind_some]
  have la : a < xs.length := by omega
  have lb : b < xs.length := by omega
  have lc : c < xs.length := by omega
  have ld : d < xs.length := by omega
  rw [if_pos (by omega), if_pos (by omega), getD_set_ne _ nad, getD_set_eq _ la]
  have w1 := q1_bd (xs.getD a 0) (xs.getD b 0)
  obtain ⟨a1, ea1⟩ : ∃ z, q1 (xs.getD a 0) (xs.getD b 0) = z := ⟨_, rfl⟩
  rw [ea1] at w1 ⊢
  rw [show (16 : Int) = ((16 : Nat) : Int) from rfl, rturn_x 16 wd w1 (by decide) (by decide)]
  rw [Option.bind_some, Option.bind_some]
  have w2 := rx_bd (n := 16) wd w1
  obtain ⟨d1, ed1⟩ : ∃ z, rot32 16 (xr (xs.getD d 0) a1) = z := ⟨_, rfl⟩
  rw [ed1] at w2 ⊢
  rw [if_pos (by omega), if_pos (by omega), getD_set_ne _ (Ne.symm ncd), getD_set_ne _ nac, getD_set_eq _ (by rw [List.length_set]; exact ld), sum_w wc w2]
  rw [Option.bind_some, Option.bind_some]
  have w3 := q1_bd (xs.getD c 0) d1
  obtain ⟨c1, ec1⟩ : ∃ z, q1 (xs.getD c 0) d1 = z := ⟨_, rfl⟩
  rw [ec1] at w3 ⊢
  rw [getD_set_ne _ (Ne.symm nbc), getD_set_ne _ (Ne.symm nbd), getD_set_ne _ nab, getD_set_eq _ (by simp only [List.length_set]; exact lc), show (12 : Int) = ((12 : Nat) : Int) from rfl, rturn_x 12 wb w3 (by decide) (by decide)]
  rw [Option.bind_some, Option.bind_some]
  have w4 := rx_bd (n := 12) wb w3
  obtain ⟨b1, eb1⟩ : ∃ z, rot32 12 (xr (xs.getD b 0) c1) = z := ⟨_, rfl⟩
  rw [eb1] at w4 ⊢
  rw [getD_set_ne _ (Ne.symm nab), getD_set_ne _ (Ne.symm nac), getD_set_ne _ (Ne.symm nad), getD_set_eq _ la, getD_set_eq _ (by simp only [List.length_set]; exact lb), sum_w w1 w4]
  rw [Option.bind_some, Option.bind_some]
  have w5 := q1_bd a1 b1
  obtain ⟨a2, ea2⟩ : ∃ z, q1 a1 b1 = z := ⟨_, rfl⟩
  rw [ea2] at w5 ⊢
  rw [getD_set_ne _ nad, getD_set_ne _ nbd, getD_set_ne _ ncd, getD_set_eq _ (by simp only [List.length_set]; exact ld), getD_set_eq _ (by simp only [List.length_set]; exact la), show (8 : Int) = ((8 : Nat) : Int) from rfl, rturn_x 8 w2 w5 (by decide) (by decide)]
  rw [Option.bind_some, Option.bind_some]
  have w6 := rx_bd (n := 8) w2 w5
  obtain ⟨d2, ed2⟩ : ∃ z, rot32 8 (xr d1 a2) = z := ⟨_, rfl⟩
  rw [ed2] at w6 ⊢
  rw [getD_set_ne _ (Ne.symm ncd), getD_set_ne _ nac, getD_set_ne _ nbc, getD_set_eq _ (by simp only [List.length_set]; exact lc), getD_set_eq _ (by simp only [List.length_set]; exact ld), sum_w w3 w6]
  rw [Option.bind_some, Option.bind_some]
  have w7 := q1_bd c1 d2
  obtain ⟨c2, ec2⟩ : ∃ z, q1 c1 d2 = z := ⟨_, rfl⟩
  rw [ec2] at w7 ⊢
  rw [getD_set_ne _ (Ne.symm nbc), getD_set_ne _ (Ne.symm nbd), getD_set_ne _ nab, getD_set_eq _ (by simp only [List.length_set]; exact lb), getD_set_eq _ (by simp only [List.length_set]; exact lc), show (7 : Int) = ((7 : Nat) : Int) from rfl, rturn_x 7 w4 w7 (by decide) (by decide)]
  rw [Option.bind_some]
  unfold qr qrL
  simp only [ea1, ed1, ec1, eb1, ea2, ed2, ec2]
end Go.Proofs.Ytpkmfaloncclaaa.Pure
