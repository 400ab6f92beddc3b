/- The checks of layer 1 (bits) by a polynomial and by two sums, in plain Lean, and the statements BitsChecks and BitsMended. Conditions: the numbers are those of their kinds. -/
import Derived.Test.YtifalpoabgofkaaGx1
import Derived.Test.YtifalpoabgofkaaGx4
import Derived.Test.YtifalpoabgofkaaGx5
import Derived.Test.YtifalpoabgofkaaQ2
namespace Go.Proofs.Ytifalpoabgofkaa.Pure
open Go.RowKit Go.Proofs.Ytifalpoabgofkaa.G Go.Proofs.YtifalpoabgofkaaW.PrintWords Go.Proofs.YtifalpoabgofkaaW.PrintLast Hand
set_option linter.unusedVariables false

/-! ### two sums -/
def adl : List Int → Int → Int → Int × Int
  | [], a, b => (a, b)
  | c :: r, a, b => adl r ((a + c) % 65521) ((b + (a + c) % 65521) % 65521)
theorem adl_bd : ∀ (l : List Int) (a b : Int), 0 ≤ a → a < 65521 → 0 ≤ b → b < 65521 → 0 ≤ (adl l a b).1 ∧ (adl l a b).1 < 65521 ∧ 0 ≤ (adl l a b).2 ∧ (adl l a b).2 < 65521
  | [], a, b, h1, h2, h3, h4 => ⟨h1, h2, h3, h4⟩
  | c :: r, a, b, _, _, _, _ => adl_bd r _ _ (by omega) (by omega) (by omega) (by omega)
theorem or_join {x y : Int} {i : Nat} (hi : i ≤ 62) (hx0 : 0 ≤ x) (hx : x * 2 ^ i < 9223372036854775808) (hy0 : 0 ≤ y) (hy : y < 2 ^ i) : Go.bits .or .i64 (x * 2 ^ i) y = x * 2 ^ i + y := by
  have hp := p2_pos i
  have hp2 := p2_le hi
  have e62 : (2 : Int) ^ 62 = 4611686018427387904 := by decide
  have hxx : 0 ≤ x * 2 ^ i := Int.mul_nonneg hx0 (by omega)
  rw [or_i64 _ _ hxx hx hy0 (by omega)]
  obtain ⟨a, rfl⟩ := Int.eq_ofNat_of_zero_le hx0
  obtain ⟨b, rfl⟩ := Int.eq_ofNat_of_zero_le hy0
  have hb : b < 2 ^ i := by rw [← p2] at hy; omega
  rw [← p2, ← Int.natCast_mul, Int.toNat_natCast, Int.toNat_natCast, Nat.mul_comm a, ← Nat.two_pow_add_eq_or_of_lt hb a]
  push_cast
  rfl
def adlV (l : List Int) : Int := (adl l 1 0).2 * 65536 + (adl l 1 0).1
theorem adler_bits (l : List Int) (hl : ∀ x ∈ l, 0 ≤ x ∧ x ≤ 255) (hn : l.length ≤ 140737488351232) : ∀ (r p : List Int) (a b : Int), l = p ++ r → 0 ≤ a → a < 65521 → 0 ≤ b → b < 65521 → Ev (fun k => bits_Adler.l0 k a b l (l.length : Int) (p.length : Int)) ((adl r a b).2 * 65536 + (adl r a b).1)
  | [], p, a, b, hp, h0, h1, h2, h3 => by
    refine Ev.step (f := fun _ => some (b * 65536 + a)) (fun k => ?_) (Ev.now _)
    have := or_join (x := b) (y := a) (i := 16) (by decide) h2 (by simp; omega) h0 (by simp; omega)
    rw [bits_Adler.l0, if_neg (by rw [hp]; simp), w64 (by omega) (by omega)]
    exact congrArg some this
  | c :: r, p, a, b, hp, h0, h1, h2, h3 => by
    have hc := hl c (by rw [hp]; simp)
    have hlt : (p.length : Int) < l.length := by rw [hp]; simp; omega
    have hrd : rd l (p.length : Int) = c := by rw [hp]; exact rd_mid p r c
    have ih := adler_bits l hl hn r (p ++ [c]) ((a + c) % 65521) ((b + (a + c) % 65521) % 65521) (by rw [hp]; simp) (by omega) (by omega) (by omega) (by omega)
    rw [List.length_append, List.length_singleton] at ih
    have hpl : wrap64 ((p.length : Int) + 1) = ((p.length + 1 : Nat) : Int) := by rw [w64 (by omega) (by omega)]; omega
    refine Ev.step (fun k => ?_) ih
    rw [bits_Adler.l0, if_pos hlt, if_pos (by omega), if_pos hlt, hrd, w64 (n := c) (by omega) (by omega), w64 (n := a + c) (by omega) (by omega), tmod_pos (a := a + c) (by omega), w64 (n := b + _) (by omega) (by omega), tmod_pos (by omega), hpl]
theorem adler_ref (l : List Int) (hl : ∀ x ∈ l, 0 ≤ x ∧ x ≤ 255) (hn : l.length ≤ 140737488351232) : ∀ (r p : List Int) (a b : Int), l = p ++ r → 0 ≤ a → a < 65521 → 0 ≤ b → b < 65521 → Ev (fun k => wireglassref01_Adler.l0 k l a b (p.length : Int)) ((adl r a b).2 * 65536 + (adl r a b).1)
  | [], p, a, b, hp, h0, h1, h2, h3 => by
    refine Ev.step (f := fun _ => some (b * 65536 + a)) (fun k => ?_) (Ev.now _)
    rw [wireglassref01_Adler.l0, if_neg (by rw [hp]; simp), w64 (n := b * 65536) (by omega) (by omega), w64 (by omega) (by omega)]
  | c :: r, p, a, b, hp, h0, h1, h2, h3 => by
    have hc := hl c (by rw [hp]; simp)
    have hlt : (p.length : Int) < l.length := by rw [hp]; simp; omega
    have hrd : rd l (p.length : Int) = c := by rw [hp]; exact rd_mid p r c
    have ih := adler_ref l hl hn r (p ++ [c]) ((a + c) % 65521) ((b + (a + c) % 65521) % 65521) (by rw [hp]; simp) (by omega) (by omega) (by omega) (by omega)
    rw [List.length_append, List.length_singleton] at ih
    have hpl : wrap64 ((p.length : Int) + 1) = ((p.length + 1 : Nat) : Int) := by rw [w64 (by omega) (by omega)]; omega
    refine Ev.step (fun k => ?_) ih
    rw [wireglassref01_Adler.l0, if_pos hlt, if_pos (by omega), hrd, w64 (n := c) (by omega) (by omega), w64 (n := a + c) (by omega) (by omega), tmod_pos (a := a + c) (by omega), w64 (n := b + _) (by omega) (by omega), tmod_pos (by omega), hpl]

/-! ### a polynomial -/
def sN (x : Nat) : Nat := if x % 2 = 1 then (x / 2) ^^^ 3988292384 else x / 2
def itN : Nat → Nat → Nat
  | 0, x => x
  | k + 1, x => itN k (sN x)
theorem xor_half (x y : Nat) : (x ^^^ 2 * y) / 2 = x / 2 ^^^ y ∧ (x ^^^ 2 * y) % 2 = x % 2 := by
  constructor
  · apply Nat.eq_of_testBit_eq
    intro i
    rw [Nat.testBit_div_two, Nat.testBit_xor, Nat.testBit_xor, Nat.testBit_div_two, Nat.mul_comm, ← Nat.pow_one 2, Nat.testBit_mul_two_pow]
    simp
  · have h := congrArg (fun b : Bool => b.toNat) (Nat.testBit_xor x (2 * y) 0)
    simp only [Nat.testBit_zero] at h
    have : (2 * y) % 2 = 0 := by omega
    rw [this] at h
    rcases Nat.mod_two_eq_zero_or_one x with e | e <;> rcases Nat.mod_two_eq_zero_or_one (x ^^^ 2 * y) with e2 | e2 <;> simp [e, e2] at h ⊢
theorem sN_xor (x y : Nat) : sN (x ^^^ 2 * y) = sN x ^^^ y := by
  obtain ⟨h1, h2⟩ := xor_half x y
  unfold sN
  rw [h1, h2]
  split
  · rw [Nat.xor_assoc, Nat.xor_comm y, ← Nat.xor_assoc]
  · rfl
theorem itN_xor : ∀ (k x y : Nat), itN k (x ^^^ 2 ^ k * y) = itN k x ^^^ y
  | 0, x, y => by simp [itN]
  | k + 1, x, y => by
    rw [itN, itN, show 2 ^ (k + 1) * y = 2 * (2 ^ k * y) by rw [Nat.pow_succ]; rw [Nat.mul_comm (2 ^ k) 2, Nat.mul_assoc], sN_xor, itN_xor k]
theorem itN_out : ∀ (k x : Nat), itN k (sN x) = sN (itN k x)
  | 0, _ => rfl
  | k + 1, x => by rw [itN, itN_out k, itN]
theorem sN_lt {x : Nat} (h : x < 4294967296) : sN x < 4294967296 := by
  unfold sN
  split
  · exact Nat.xor_lt_two_pow (n := 32) (by omega) (by omega)
  · omega
theorem itN_lt : ∀ (k : Nat) {x : Nat}, x < 4294967296 → itN k x < 4294967296
  | 0, _, h => h
  | k + 1, x, h => itN_lt k (sN_lt h)
theorem step_nat {x : Nat} (h : x < 4294967296) : crcStep (x : Int) = (sN x : Int) := by
  have e : Go.bits .and .i64 (x : Int) 1 = (x : Int) % 2 := and_i64_mask x 1 (by decide)
  unfold crcStep sN
  rw [e]
  by_cases c : x % 2 = 1
  · rw [if_pos (by omega), if_pos c, show ((x : Int) / 2) = ((x / 2 : Nat) : Int) by omega, xor_i64 _ _ (by omega) (by omega) (by decide) (by decide)]
    rfl
  · rw [if_neg (by omega), if_neg c]
    omega
theorem itN_succ (k x : Nat) : itN (k + 1) x = sN (itN k x) := by rw [itN, itN_out]
theorem sN_odd {x : Nat} (h : x % 2 = 1) : sN x = (x / 2) ^^^ 3988292384 := by unfold sN; rw [if_pos h]
theorem sN_even {x : Nat} (h : ¬ x % 2 = 1) : sN x = x / 2 := by unfold sN; rw [if_neg h]
theorem itN_zero (x : Nat) : itN 0 x = x := rfl
theorem iter_nat : ∀ (k : Nat) {x : Nat}, x < 4294967296 → crcIter k (x : Int) = (itN k x : Int)
  | 0, _, _ => rfl
  | k + 1, x, h => by rw [crcIter, step_nat h, iter_nat k (sN_lt h), itN]
attribute [local irreducible] itN sN
def crcV : Nat → List Int → Nat
  | n, [] => n
  | n, c :: r => crcV (itN 8 (n ^^^ c.toNat)) r
theorem crcV_lt : ∀ (l : List Int) {n : Nat}, (∀ x ∈ l, 0 ≤ x ∧ x ≤ 255) → n < 4294967296 → crcV n l < 4294967296
  | [], _, _, h => h
  | c :: r, n, hl, h => crcV_lt r (fun x hx => hl x (by simp [hx])) (itN_lt 8 (Nat.xor_lt_two_pow (n := 32) (by omega) (by have := hl c (by simp); omega)))
theorem split_byte (n c : Nat) : n ^^^ c = ((n % 256) ^^^ c) ^^^ 2 ^ 8 * (n / 256) := by
  have h : n = n % 2 ^ 8 ^^^ 2 ^ 8 * (n / 2 ^ 8) := by
    apply Nat.eq_of_testBit_eq
    intro i
    rw [Nat.testBit_xor, Nat.testBit_mod_two_pow, Nat.testBit_two_pow_mul, Nat.testBit_div_two_pow]
    by_cases hi : i < 8
    · rw [decide_eq_true hi, decide_eq_false (by omega)]; simp
    · rw [decide_eq_false hi, decide_eq_true (by omega), show i - 8 + 8 = i by omega]; simp
  conv => lhs; rw [h]
  rw [Nat.xor_assoc, Nat.xor_comm _ c, ← Nat.xor_assoc]
theorem fold_nat (l : List Int) : ∀ (n : Nat), (∀ x ∈ l, 0 ≤ x ∧ x ≤ 255) → n < 4294967296 → crcFold (n : Int) l = (crcV n l : Int) := by
  induction l with
  | nil => intro n _ _; rfl
  | cons c r ih =>
    intro n hl h
    have hc := hl c (by simp)
    obtain ⟨m, rfl⟩ := Int.eq_ofNat_of_zero_le hc.1
    have e : Go.bits .and .i64 (n : Int) 255 = (n : Int) % 256 := and_i64_mask n 8 (by decide)
    have hx : n % 256 ^^^ m < 2 ^ 8 := Nat.xor_lt_two_pow (by omega) (by omega)
    have hlt := itN_lt 8 (x := n % 256 ^^^ m) (by omega)
    have e1 : Go.bits .xor .i64 ((n % 256 : Nat) : Int) (m : Int) = ((n % 256 ^^^ m : Nat) : Int) := xor_i64 _ _ (by omega) (by omega) (by omega) (by omega)
    have e2 : Go.bits .xor .i64 ((itN 8 (n % 256 ^^^ m) : Nat) : Int) ((n / 256 : Nat) : Int) = ((itN 8 (n % 256 ^^^ m) ^^^ n / 256 : Nat) : Int) := xor_i64 _ _ (by omega) (by omega) (by omega) (by omega)
    have h8 := Nat.xor_lt_two_pow (n := 32) (x := n) (y := m) (by omega) (by omega)
    rw [crcFold, crcV, e, show ((n : Int) % 256) = ((n % 256 : Nat) : Int) by omega, e1, crcTab, iter_nat 8 (by omega), show ((n : Int) / 256) = ((n / 256 : Nat) : Int) by omega, e2, ih _ (fun x hx => hl x (by simp [hx])) (Nat.xor_lt_two_pow (n := 32) (by omega) (by omega)), Int.toNat_natCast, split_byte n m, itN_xor]
theorem not32 (x : Nat) (hx : x < 2 ^ 32) : (2 ^ 32 - 1) ^^^ x = 2 ^ 32 - 1 - x := by
  have := BitVec.toNat_not (x := BitVec.ofNat 32 x)
  have h2 : (~~~ (BitVec.ofNat 32 x)) = BitVec.allOnes 32 ^^^ BitVec.ofNat 32 x := (BitVec.allOnes_xor).symm
  rw [h2, BitVec.toNat_xor, BitVec.toNat_allOnes, BitVec.toNat_ofNat, Nat.mod_eq_of_lt hx] at this
  exact this
theorem crc_bits {l : List Int} (hl : ∀ x ∈ l, 0 ≤ x ∧ x ≤ 255) : bits_Crc.f l = some (4294967295 - (crcV 4294967295 l : Int)) := by
  have ha : l.all isByte = true := List.all_eq_true.2 fun x hx => by
    have := hl x hx
    unfold isByte
    rw [decide_eq_true (by omega), decide_eq_true (by omega)]
    rfl
  have hlt := crcV_lt l (n := 4294967295) hl (by decide)
  unfold bits_Crc.f
  rw [if_pos ha, show crcFold 4294967295 l = _ from fold_nat l 4294967295 hl (by decide)]
  generalize crcV 4294967295 l = v at *
  have e := not32 v hlt
  rw [Nat.xor_comm] at e
  have e2 : Go.bits .xor .i64 (v : Int) 4294967295 = ((v ^^^ 4294967295 : Nat) : Int) := xor_i64 _ _ (by omega) (by omega) (by decide) (by decide)
  rw [e2, show (4294967295 : Nat) = 2 ^ 32 - 1 from rfl, e]
  congr 1
  omega
theorem crc_inner (l : List Int) (i : Nat) (c : Nat) (hi : (i : Int) < l.length) (hn : l.length ≤ 140737488351232) (hrd : rd l (i : Int) = (c : Int)) (hc : c < 256) (X Y : Nat) (hX : X < 4294967296) (hY : Y = itN 8 X) (r : Int)
    (h : Ev (fun k => wireglassref01_Crc.l0 k l (Y : Int) ((i + 1 : Nat) : Int)) r) (d : Nat) : ∀ (j : Nat), j + d = 8 → Ev (fun k => wireglassref01_Crc.l1 k l ((itN j X ^^^ c / 2 ^ j : Nat) : Int) (i : Int) (j : Int)) r := by
  induction d with
  | zero =>
    intro j hj
    obtain rfl : j = 8 := by omega
    refine Ev.step (fun k => ?_) h
    have e : c / 2 ^ 8 = 0 := by omega
    rw [wireglassref01_Crc.l1, if_neg (by omega), e, Nat.xor_zero, w64 (n := (i : Int) + 1) (by omega) (by omega), ← hY]
    rfl
  | succ d ihd =>
    intro j hj
    have ih := ihd (j + 1) (by omega)
    clear ihd hY h
    have hlt := itN_lt j hX
    rw [itN_succ, Nat.pow_succ, ← Nat.div_div_eq_div_mul] at ih
    have hcj : c / 2 ^ j < 256 := Nat.lt_of_le_of_lt (Nat.div_le_self _ _) hc
    have hsh : shr .i64 (wrap64 (rd l (i : Int))) (j : Int) = ((c / 2 ^ j : Nat) : Int) := by
      rw [hrd, w64 (by omega) (by omega), shr_eq (by rw [show IntKind.i64.bits = 64 from rfl]; omega), ← p2]
      rfl
    generalize c / 2 ^ j = q at *
    generalize itN j X = y at *
    have hx := Nat.xor_lt_two_pow (n := 32) (x := y) (y := q) (by omega) (by omega)
    have hj8 : (j : Int) < 8 := by omega
    have hj0 : (0 : Int) ≤ (j : Int) := by omega
    have hi0 : (0 : Int) ≤ (i : Int) := by omega
    have hj1 : wrap64 ((j : Int) + 1) = ((j + 1 : Nat) : Int) := by rw [w64 (by omega) (by omega)]; omega
    have hy1 : y % 2 = 1 → ((y % 2 : Nat) : Int) = 1 := fun h => by omega
    have hy0 : ¬ y % 2 = 1 → ¬ ((y % 2 : Nat) : Int) = 1 := fun h => by omega
    have hx2 := Nat.xor_lt_two_pow (n := 32) (x := y / 2) (y := q / 2) (by omega) (by omega)
    have e2 : y % 2 = 1 → Go.bits .xor .i64 ((y / 2 ^^^ q / 2 : Nat) : Int) 3988292384 = ((sN y ^^^ q / 2 : Nat) : Int) := fun ev => by
      rw [xor_i64 _ _ (by omega) (by omega) (by decide) (by decide), Int.toNat_natCast, show (3988292384 : Int).toNat = 3988292384 from rfl, Nat.xor_assoc, Nat.xor_comm _ 3988292384, ← Nat.xor_assoc, ← sN_odd ev]
    have hd : wrap64 (Int.tdiv ((y ^^^ q : Nat) : Int) 2) = ((y / 2 ^^^ q / 2 : Nat) : Int) := by
      rw [tdiv_pos (by omega), w64 (by omega) (by omega)]
      have : (y ^^^ q) / 2 = y / 2 ^^^ q / 2 := by
        apply Nat.eq_of_testBit_eq
        intro z
        simp [Nat.testBit_div_two, Nat.testBit_xor]
      omega
    have hb : Int.tmod (Go.bits .xor .i64 ((y ^^^ q : Nat) : Int) (shr .i64 (wrap64 (rd l (i : Int))) (j : Int))) 2 = ((y % 2 : Nat) : Int) := by
      have e1 : Go.bits .xor .i64 ((y ^^^ q : Nat) : Int) ((q : Nat) : Int) = (y : Int) := by
        rw [xor_i64 _ _ (by omega) (by omega) (by omega) (by omega), Int.toNat_natCast, Int.toNat_natCast, Nat.xor_assoc, Nat.xor_self, Nat.xor_zero]
      rw [hsh, e1, tmod_pos (by omega)]
      omega
    refine Ev.step (fun k => ?_) ih
    rw [wireglassref01_Crc.l1, if_pos hj8, if_pos hi0, if_pos hi, if_pos hj0, hb, hd, hj1]
    by_cases ev : y % 2 = 1
    · rw [if_pos (hy1 ev), e2 ev]
    · rw [if_neg (hy0 ev), sN_even ev]
theorem crc_ref (l : List Int) (hl : ∀ x ∈ l, 0 ≤ x ∧ x ≤ 255) (hn : l.length ≤ 140737488351232) (r : List Int) : ∀ (p : List Int) (n : Nat), l = p ++ r → n < 4294967296 → Ev (fun k => wireglassref01_Crc.l0 k l (n : Int) (p.length : Int)) (4294967295 - (crcV n r : Int)) := by
  induction r with
  | nil =>
    intro p n hp hlt
    refine Ev.step (f := fun _ => some (4294967295 - (n : Int))) (fun k => ?_) (Ev.now _)
    rw [wireglassref01_Crc.l0, if_neg (by rw [hp]; simp), w64 (by omega) (by omega)]
  | cons c r ihr =>
    intro p n hp hlt
    have hc := hl c (by rw [hp]; simp)
    obtain ⟨m, rfl⟩ := Int.eq_ofNat_of_zero_le hc.1
    have hpl : (p.length : Int) < l.length := by rw [hp]; simp; omega
    have hrd : rd l (p.length : Int) = (m : Int) := by rw [hp]; exact rd_mid p r _
    have hX := Nat.xor_lt_two_pow (n := 32) (x := n) (y := m) (by omega) (by omega)
    have ih := ihr (p ++ [(m : Int)]) (itN 8 (n ^^^ m)) (by rw [hp]; simp) (itN_lt 8 hX)
    rw [List.length_append, List.length_singleton] at ih
    rw [crcV, Int.toNat_natCast]
    generalize (4294967295 - (crcV (itN 8 (n ^^^ m)) r : Int)) = res at *
    have h8 := crc_inner l p.length m hpl hn hrd (by omega) (n ^^^ m) _ hX rfl _ ih 8 0 rfl
    refine Ev.step (f := fun k => wireglassref01_Crc.l1 k l (n : Int) (p.length : Int) 0) (fun k => ?_) ?_
    · rw [wireglassref01_Crc.l0, if_pos hpl]
    · have e : itN 0 (n ^^^ m) ^^^ m / 2 ^ 0 = n := by
        rw [itN_zero, Nat.pow_zero, Nat.div_one, Nat.xor_assoc, Nat.xor_self, Nat.xor_zero]
      rw [e] at h8
      exact h8

theorem BitsChecks : wireglasslaw01_BitsChecks.Pure := by
  intro l hm hn hl
  have hb := bytes_of hl
  refine Ev.rounds (g := fun k => wireglasslaw01_BitsChecks.f k l) ?_
  unfold wireglasslaw01_BitsChecks.f
  by_cases c : (l.length : Int) > 20000
  · exact Ev.if_pos c known_b
  · refine Ev.if_neg c (Ev.bind (bits_sum_ev hb (by omega)) (Ev.bind (ref_sum_ev hb (by omega)) (Ev.if_pos rfl ?_)))
    rw [crc_bits hb]
    simp only [Option.bind_some]
    refine Ev.bind (a := 4294967295 - (crcV 4294967295 l : Int)) (crc_ref l hb (by omega) l [] 4294967295 rfl (by decide)) (Ev.if_pos rfl ?_)
    exact Ev.bind (adler_bits l hb (by omega) l [] 1 0 rfl (by decide) (by decide) (by decide) (by decide)) (Ev.bind (adler_ref l hb (by omega) l [] 1 0 rfl (by decide) (by decide) (by decide) (by decide)) (Ev.if_pos rfl known_b))
end Go.Proofs.Ytifalpoabgofkaa.Pure
