/- Numbers put into bits of bytes, in plain Lean: what Put comes to in the program and in the reference, bit by bit, and the statement BitsPuts. Conditions: the numbers are those of their kinds. -/
import Derived.Test.YtifalpoabgofkaaGx10
import Derived.Test.YtifalpoabgofkaaGx7
import Derived.Test.YtifalpoabgofkaaGx8
import Derived.Test.YtifalpoabgofkaaGx9
import Derived.Test.YtifalpoabgofkaaQ7
namespace Go.Proofs.Ytifalpoabgofkaa.Pure
open Go.RowKit Go.Proofs.Ytifalpoabgofkaa.G Go.Proofs.YtifalpoabgofkaaW.PrintWords Go.Proofs.YtifalpoabgofkaaW.PrintLast Hand
set_option linter.unusedVariables false

/-! ### one bit -/
theorem sb_and (c s : Nat) (hc : c < 256) (hs : s < 8) : Go.bits .andNot .u8 (c : Int) (shl .u8 1 (s : Int)) = (c : Int) - (c : Int) / 2 ^ s % 2 * 2 ^ s := by
  have h : ∀ c : Fin 256, ∀ s : Fin 8, Go.bits .andNot .u8 (c.val : Int) (shl .u8 1 (s.val : Int)) = (c.val : Int) - (c.val : Int) / 2 ^ s.val % 2 * 2 ^ s.val := by decide +kernel
  exact h ⟨c, hc⟩ ⟨s, hs⟩
theorem sb_or (c s b : Nat) (hc : c < 256) (hs : s < 8) (hb : b < 2) : Go.bits .or .u8 ((c : Int) - (c : Int) / 2 ^ s % 2 * 2 ^ s) (shl .u8 (b : Int) (s : Int)) = (c : Int) - (c : Int) / 2 ^ s % 2 * 2 ^ s + (b : Int) * 2 ^ s := by
  have h : ∀ c : Fin 256, ∀ s : Fin 8, ∀ b : Fin 2, Go.bits .or .u8 ((c.val : Int) - (c.val : Int) / 2 ^ s.val % 2 * 2 ^ s.val) (shl .u8 (b.val : Int) (s.val : Int)) = (c.val : Int) - (c.val : Int) / 2 ^ s.val % 2 * 2 ^ s.val + (b.val : Int) * 2 ^ s.val := by decide +kernel
  exact h ⟨c, hc⟩ ⟨s, hs⟩ ⟨b, hb⟩
/-- A byte with the bit at s put to b. -/
def sb (c : Int) (s : Nat) (b : Int) : Int := c - c / 2 ^ s % 2 * 2 ^ s + b * 2 ^ s
theorem sb_bit (c s b r : Nat) (hc : c < 256) (hs : s < 8) (hb : b < 2) (hr : r < 8) : 0 ≤ sb c s b ∧ sb c s b ≤ 255 ∧ sb c s b / 2 ^ r % 2 = if r = s then (b : Int) else (c : Int) / 2 ^ r % 2 := by
  have h : ∀ c : Fin 256, ∀ s : Fin 8, ∀ b : Fin 2, ∀ r : Fin 8, 0 ≤ sb c.val s.val b.val ∧ sb c.val s.val b.val ≤ 255 ∧ sb c.val s.val b.val / 2 ^ r.val % 2 = if r.val = s.val then (b.val : Int) else (c.val : Int) / 2 ^ r.val % 2 := by decide +kernel
  exact h ⟨c, hc⟩ ⟨s, hs⟩ ⟨b, hb⟩ ⟨r, hr⟩
/-- A list with the bit at place p put to b. -/
def putB (l : List Int) (p : Nat) (b : Int) : List Int := l.set (p / 8) (sb (rd l ((p / 8 : Nat) : Int)) (7 - p % 8) b)
theorem rd_set (l : List Int) (i j : Nat) (x : Int) (h : i < l.length) : rd (l.set i x) (j : Int) = if i = j then x else rd l (j : Int) := by
  unfold rd
  rw [Int.toNat_natCast, List.getD_eq_getElem?_getD, List.getElem?_set, List.getD_eq_getElem?_getD]
  by_cases c : i = j
  · rw [_root_.if_pos c, _root_.if_pos c, _root_.if_pos h]; rfl
  · rw [_root_.if_neg c, _root_.if_neg c]
theorem putB_len (l : List Int) (p : Nat) (b : Int) : (putB l p b).length = l.length := List.length_set
theorem putB_byte {l : List Int} (hl : ∀ x ∈ l, 0 ≤ x ∧ x ≤ 255) (p b : Nat) (hb : b < 2) : ∀ x ∈ putB l p b, 0 ≤ x ∧ x ≤ 255 := fun x hx => by
  rcases List.mem_or_eq_of_mem_set hx with h | rfl
  · exact hl x h
  · obtain ⟨h0, h1⟩ := rd_byte hl ((p / 8 : Nat) : Int)
    generalize rd l ((p / 8 : Nat) : Int) = c at *
    obtain ⟨c, rfl⟩ := Int.eq_ofNat_of_zero_le h0
    have := sb_bit c (7 - p % 8) b 0 (by omega) (by omega) hb (by decide)
    exact ⟨this.1, this.2.1⟩
theorem putB_bit {l : List Int} (hl : ∀ x ∈ l, 0 ≤ x ∧ x ≤ 255) (p b q : Nat) (hb : b < 2) (hp : p < 8 * l.length) : bitv (putB l p b) q = if q = p then (b : Int) else bitv l q := by
  unfold bitv putB
  rw [rd_set _ _ _ _ (by omega)]
  obtain ⟨h0, h1⟩ := rd_byte hl ((p / 8 : Nat) : Int)
  by_cases c : p / 8 = q / 8
  · rw [_root_.if_pos c, ← c]
    generalize rd l ((p / 8 : Nat) : Int) = x at *
    obtain ⟨x, rfl⟩ := Int.eq_ofNat_of_zero_le h0
    rw [(sb_bit x (7 - p % 8) b (7 - q % 8) (by omega) (by omega) hb (by omega)).2.2]
    by_cases d : q = p
    · rw [_root_.if_pos d, _root_.if_pos (by omega)]
    · rw [_root_.if_neg d, _root_.if_neg (by omega)]
  · rw [_root_.if_neg c, _root_.if_neg (by intro h; exact c (by rw [h]))]
/-- What the code does at one place. -/
theorem put_step {l : List Int} (hl : ∀ x ∈ l, 0 ≤ x ∧ x ≤ 255) (p b : Nat) (hb : b < 2) (hp : p < 8 * l.length) :
    l.set (p / 8) (Go.bits .andNot .u8 (rd l ((p / 8 : Nat) : Int)) (shl .u8 1 ((7 - p % 8 : Nat) : Int))) = putB l p 0 ∧
    (putB l p 0).set (p / 8) (Go.bits .or .u8 (rd (putB l p 0) ((p / 8 : Nat) : Int)) (shl .u8 (b : Int) ((7 - p % 8 : Nat) : Int))) = putB l p b := by
  obtain ⟨h0, h1⟩ := rd_byte hl ((p / 8 : Nat) : Int)
  have e : rd (putB l p 0) ((p / 8 : Nat) : Int) = sb (rd l ((p / 8 : Nat) : Int)) (7 - p % 8) 0 := by unfold putB; rw [rd_set _ _ _ _ (by omega), _root_.if_pos rfl]
  rw [e]
  unfold putB
  rw [List.set_set]
  generalize rd l ((p / 8 : Nat) : Int) = x at *
  obtain ⟨x, rfl⟩ := Int.eq_ofNat_of_zero_le h0
  have ez : sb (x : Int) (7 - p % 8) 0 = (x : Int) - (x : Int) / 2 ^ (7 - p % 8) % 2 * 2 ^ (7 - p % 8) := by unfold sb; rw [Int.zero_mul, Int.add_zero]
  rw [sb_and x _ (by omega) (by omega), ez, sb_or x _ b (by omega) (by omega) hb]
  exact ⟨rfl, rfl⟩
/-- Lists with the same bits are one. -/
theorem bits_ext {l r : List Int} (hl : ∀ x ∈ l, 0 ≤ x ∧ x ≤ 255) (hr : ∀ x ∈ r, 0 ≤ x ∧ x ≤ 255) (hlen : l.length = r.length) (h : ∀ q, q < 8 * l.length → bitv l q = bitv r q) : l = r := by
  refine List.ext_getElem hlen fun i h1 h2 => ?_
  have b1 := hl _ (List.getElem_mem h1)
  have b2 := hr _ (List.getElem_mem h2)
  have e : ∀ s, s < 8 → l[i] / 2 ^ (7 - s) % 2 = r[i] / 2 ^ (7 - s) % 2 := fun s hs => by
    have := h (8 * i + s) (by omega)
    unfold bitv at this
    rw [show (8 * i + s) / 8 = i by omega, show (8 * i + s) % 8 = s by omega, rd_at h1, rd_at h2] at this
    exact this
  have e0 := e 0 (by omega); have e1 := e 1 (by omega); have e2 := e 2 (by omega); have e3 := e 3 (by omega)
  have e4 := e 4 (by omega); have e5 := e 5 (by omega); have e6 := e 6 (by omega); have e7 := e 7 (by omega)
  clear e h
  generalize l[i] = x at *
  generalize r[i] = y at *
  rw [show (2 : Int) ^ (7 - 0) = 128 from rfl] at e0
  rw [show (2 : Int) ^ (7 - 1) = 64 from rfl] at e1
  rw [show (2 : Int) ^ (7 - 2) = 32 from rfl] at e2
  rw [show (2 : Int) ^ (7 - 3) = 16 from rfl] at e3
  rw [show (2 : Int) ^ (7 - 4) = 8 from rfl] at e4
  rw [show (2 : Int) ^ (7 - 5) = 4 from rfl] at e5
  rw [show (2 : Int) ^ (7 - 6) = 2 from rfl] at e6
  rw [show (2 : Int) ^ (7 - 7) = 1 from rfl] at e7
  omega
/-- R is l with the n bits from a on put to those of w. -/
def Is (R l : List Int) (a n : Nat) (w : Int) : Prop := R.length = l.length ∧ (∀ x ∈ R, 0 ≤ x ∧ x ≤ 255) ∧ ∀ q, q < 8 * l.length → bitv R q = if a ≤ q ∧ q < a + n then w / 2 ^ (a + n - 1 - q) % 2 else bitv l q
theorem Is.uniq {R R' l : List Int} {a n : Nat} {w : Int} (h : Is R l a n w) (h' : Is R' l a n w) : R = R' :=
  bits_ext h.2.1 h'.2.1 (h.1.trans h'.1.symm) fun q hq => by rw [h.2.2 q (by rw [← h.1]; exact hq), h'.2.2 q (by rw [← h.1]; exact hq)]
theorem Is.num {R l : List Int} {a n : Nat} {w : Int} (h : Is R l a n w) (h0 : 0 ≤ w) (h1 : w < 2 ^ n) (hf : a + n ≤ 8 * l.length) : ∀ j, j ≤ n → num R a j = w / 2 ^ (n - j)
  | 0, _ => by rw [Pure.num, Nat.sub_zero, Int.ediv_eq_zero_of_lt h0 h1]
  | j + 1, hj => by
    rw [Pure.num, Is.num h h0 h1 hf j (by omega), h.2.2 (a + j) (by omega), _root_.if_pos (by omega), show a + n - 1 - (a + j) = n - (j + 1) by omega, show n - j = n - (j + 1) + 1 by omega, Int.pow_succ, ← Int.ediv_ediv_of_nonneg (Int.le_of_lt (p2_pos _))]
    generalize w / 2 ^ (n - (j + 1)) = u
    omega
end Go.Proofs.Ytifalpoabgofkaa.Pure
