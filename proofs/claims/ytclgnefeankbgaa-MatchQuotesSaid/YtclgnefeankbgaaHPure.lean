/- Plain lemmas on whole numbers, lists and rounds. Conditions: as each lemma says. -/
import Derived.Test.YtclgnefeankbgaaWMore
import Derived.Test.YtclgnefeankbgaaHBits
namespace Go.Proofs.Ytclgnefeankbgaa.Hand
open Go Go.RowKit Go.Proofs.YtclgnefeankbgaaW.PrintWords

theorem w64 {n : Int} (h1 : -9223372036854775808 ≤ n) (h2 : n ≤ 9223372036854775807) : wrap64 n = n := by unfold wrap64; omega
theorem wf64 {n : Int} (h : (Lit.int .i64 n).wf = true) : -9223372036854775808 ≤ n ∧ n ≤ 9223372036854775807 := by
  simp [Lit.wf, IntKind.min, IntKind.max, IntKind.signed, IntKind.bits] at h
  omega
theorem wf8 {n : Int} (h : (Lit.int .u8 n).wf = true) : 0 ≤ n ∧ n ≤ 255 := by
  simp [Lit.wf, IntKind.min, IntKind.max, IntKind.signed, IntKind.bits] at h
  omega
theorem tmod_pos {a b : Int} (h : 0 ≤ a) : Int.tmod a b = a % b := Int.tmod_eq_emod_of_nonneg h
theorem tdiv_pos {a b : Int} (h : 0 ≤ a) : Int.tdiv a b = a / b := Int.tdiv_eq_ediv_of_nonneg h
theorem tmod_lt {a b : Int} (hb : 0 < b) : -b < Int.tmod a b ∧ Int.tmod a b < b := by
  rcases Int.le_total 0 a with h | h
  · rw [tmod_pos h]; have := Int.emod_nonneg a (show b ≠ 0 by omega); have := Int.emod_lt_of_pos a hb; omega
  · have e : a = -(-a) := by omega
    rw [e, Int.neg_tmod, tmod_pos (show 0 ≤ -a by omega)]
    have := Int.emod_nonneg (-a) (show b ≠ 0 by omega); have := Int.emod_lt_of_pos (-a) hb; omega
/-- '(a % m + m) % m' of Go. -/
theorem low_mod {a m : Int} (hm : 0 < m) (hm2 : m ≤ 4611686018427387904) : Int.tmod (wrap64 (Int.tmod a m + m)) m = a % m := by
  have hl := tmod_lt (a := a) hm
  rw [w64 (by omega) (by omega), tmod_pos (by omega)]
  rcases Int.le_total 0 a with h | h
  · rw [tmod_pos h, Int.add_emod_right, Int.emod_emod]
  · have e : a = -(-a) := by omega
    have hd := Int.emod_add_mul_ediv (-a) m
    have ht : Int.tmod a m = -(-a % m) := by
      conv => lhs; rw [e]
      rw [Int.neg_tmod, tmod_pos (show 0 ≤ -a by omega)]
    rw [ht, Int.add_emod_right]
    have ha : a = -(-a % m) + m * (-(-a / m)) := by
      rw [Int.mul_neg]
      omega
    conv => rhs; rw [ha]
    rw [Int.add_mul_emod_self_left]
theorem and16 (a : Int) : Go.bits .and .i64 a 65535 = a % 65536 := and_i64_mask a 16 (by decide)
theorem rd_at {l : List Int} {i : Nat} (h : i < l.length) : rd l (i : Int) = l[i] := by simp [rd, h]
theorem rd_mem {l : List Int} {i : Int} (h0 : 0 ≤ i) (h : i < l.length) : rd l i ∈ l := by
  obtain ⟨n, rfl⟩ := Int.eq_ofNat_of_zero_le h0
  rw [rd_at (by omega)]
  exact List.getElem_mem _
theorem rd_mid (p r : List Int) (c : Int) : rd (p ++ c :: r) (p.length : Int) = c := by simp [rd]
theorem byte_rd {l : List Int} (hl : ∀ x ∈ l, (Lit.int .u8 x).wf = true) {i : Int} (h0 : 0 ≤ i) (h : i < l.length) : 0 ≤ rd l i ∧ rd l i ≤ 255 := wf8 (hl _ (rd_mem h0 h))
theorem Ev.if_pos {α : Type} {c : Prop} [Decidable c] {g f : Nat → Option α} {r : α} (hc : c) (h : Ev g r) : Ev (fun k => if c then g k else f k) r := by simpa only [_root_.if_pos hc] using h
theorem Ev.if_neg {α : Type} {c : Prop} [Decidable c] {g f : Nat → Option α} {r : α} (hc : ¬ c) (h : Ev f r) : Ev (fun k => if c then g k else f k) r := by simpa only [_root_.if_neg hc] using h
theorem p2 (m : Nat) : ((2 ^ m : Nat) : Int) = (2 : Int) ^ m := by push_cast; rfl
theorem p2_pos (m : Nat) : (0 : Int) < 2 ^ m := by rw [← p2]; have := Nat.two_pow_pos m; omega
theorem p2_le {m n : Nat} (h : m ≤ n) : (2 : Int) ^ m ≤ 2 ^ n := by rw [← p2, ← p2]; have := Nat.pow_le_pow_right (n := 2) (by decide) h; omega
theorem p2_succ (m : Nat) : (2 : Int) ^ (m + 1) = 2 * 2 ^ m := by rw [Int.pow_succ, Int.mul_comm]
theorem shl1 {n : Nat} (h1 : n ≤ 62) : shl .i64 1 (n : Int) = 2 ^ n := by
  unfold shl
  rw [show min (n : Int).toNat IntKind.i64.bits = n by rw [show IntKind.i64.bits = 64 from rfl]; omega, Int.one_mul, IntKind.wrap_i64]
  have := p2_pos n
  have := p2_le h1
  have e : (2 : Int) ^ 62 = 4611686018427387904 := by decide
  omega
theorem shr_eq {k : IntKind} {x : Int} {n : Nat} (h1 : n ≤ k.bits) : shr k x (n : Int) = x / 2 ^ n := by
  unfold shr
  rw [show min (n : Int).toNat k.bits = n by omega]
end Go.Proofs.Ytclgnefeankbgaa.Hand
