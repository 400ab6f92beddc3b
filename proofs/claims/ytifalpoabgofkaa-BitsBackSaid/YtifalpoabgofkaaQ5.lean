/- Numbers of bits in bytes, in plain Lean: what Get comes to in the program and in the reference, and the statement BitsGets. Conditions: the numbers are those of their kinds. -/
import Derived.Test.YtifalpoabgofkaaGx1
import Derived.Test.YtifalpoabgofkaaGx2
import Derived.Test.YtifalpoabgofkaaGx3
import Derived.Test.YtifalpoabgofkaaQ1
namespace Go.Proofs.Ytifalpoabgofkaa.Pure
open Go.RowKit Go.Proofs.Ytifalpoabgofkaa.G Go.Proofs.YtifalpoabgofkaaW.PrintWords Go.Proofs.YtifalpoabgofkaaW.PrintLast Hand
set_option linter.unusedVariables false

theorem bytes_wf {l : List Int} (h : ∀ x ∈ l, (Lit.int .u8 x).wf = true) : ∀ x ∈ l, 0 ≤ x ∧ x ≤ 255 := fun x hx => wf8 (h x hx)
theorem rd_byte {l : List Int} (hl : ∀ x ∈ l, 0 ≤ x ∧ x ≤ 255) (i : Int) : 0 ≤ rd l i ∧ rd l i ≤ 255 := by
  unfold rd
  by_cases h : i.toNat < l.length
  · rw [List.getD_eq_getElem?_getD, List.getElem?_eq_getElem h]
    exact hl _ (List.getElem_mem h)
  · rw [List.getD_eq_getElem?_getD, List.getElem?_eq_none (by omega)]
    decide
/-- The bit at place k. -/
def bitv (l : List Int) (k : Nat) : Int := rd l ((k / 8 : Nat) : Int) / 2 ^ (7 - k % 8) % 2
/-- The number of n bits from place a on, the highest one first. -/
def num (l : List Int) (a : Nat) : Nat → Int
  | 0 => 0
  | n + 1 => 2 * num l a n + bitv l (a + n)
theorem bitv_bd (l : List Int) (k : Nat) : 0 ≤ bitv l k ∧ bitv l k ≤ 1 := by unfold bitv; omega
theorem num_bd (l : List Int) (a : Nat) : ∀ n : Nat, 0 ≤ num l a n ∧ num l a n < 2 ^ n
  | 0 => by simp [num]
  | n + 1 => by
    have h := num_bd l a n
    have h2 := bitv_bd l (a + n)
    rw [num, p2_succ]
    omega
/-- What is wrong with a place and a size. -/
def askE (l : List Int) (a n : Int) (low : Bool) : Int :=
  if n < 0 ∨ 48 < n ∨ a < 0 ∨ low = true ∧ (Int.tmod n 8 ≠ 0 ∨ Int.tmod a 8 ≠ 0) then 1 else if a + n ≤ 8 * l.length then 0 else 4
theorem bits_asked_ev (l : List Int) (a n : Int) (low : Bool) (hn : l.length ≤ 140737488351232) (ha : (Lit.int .i64 a).wf = true) : Ev (fun k => bits_asked.f k l a n low) (askE l a n low) := by
  have ha' := wf64 ha
  have h8 : wrap64 (8 * (l.length : Int)) = 8 * (l.length : Int) := w64 (by omega) (by omega)
  have j1 : Ev (fun k => bits_asked.j0 k l a n true) 1 := Ev.step (f := fun _ => some 1) (fun k => by rw [bits_asked.j0, if_pos rfl]) (Ev.now _)
  have j0 : 0 ≤ n → n ≤ 48 → 0 ≤ a → Ev (fun k => bits_asked.j0 k l a n false) (if a + n ≤ 8 * l.length then 0 else 4) := fun h0 h1 h2 =>
    Ev.step (f := fun _ => some (if a + n ≤ 8 * l.length then 0 else 4)) (fun k => by
      rw [bits_asked.j0, if_neg (by decide), h8]
      by_cases c : n > 8 * (l.length : Int)
      · rw [if_pos c, if_neg (by omega)]
      · rw [if_neg c, w64 (by omega) (by omega)]
        by_cases c2 : a + n ≤ 8 * (l.length : Int)
        · rw [if_neg (by omega), if_pos c2]
        · rw [if_pos (by omega), if_neg c2]) (Ev.now _)
  unfold bits_asked.f askE
  by_cases c1 : n < 0
  · rw [if_pos (.inl c1)]; exact Ev.if_pos c1 j1
  refine Ev.if_neg c1 ?_
  by_cases c2 : n > 48
  · rw [if_pos (.inr (.inl c2))]; exact Ev.if_pos c2 j1
  refine Ev.if_neg c2 ?_
  by_cases c3 : a < 0
  · rw [if_pos (.inr (.inr (.inl c3)))]; exact Ev.if_pos c3 j1
  refine Ev.if_neg c3 ?_
  cases low with
  | false =>
    rw [if_neg (by simp; omega)]
    exact Ev.if_neg (by decide) (j0 (by omega) (by omega) (by omega))
  | true =>
    refine Ev.if_pos rfl ?_
    by_cases c4 : Int.tmod n 8 = 0
    · refine Ev.if_pos c4 ?_
      by_cases c5 : Int.tmod a 8 = 0
      · rw [if_neg (by simp [c4, c5]; omega), show (Int.tmod a 8 != 0) = false from bne_eq_false_iff_eq.mpr c5]
        exact j0 (by omega) (by omega) (by omega)
      · rw [if_pos (.inr (.inr (.inr ⟨rfl, .inr c5⟩))), bne_iff_ne.mpr c5]
        exact j1
    · rw [if_pos (.inr (.inr (.inr ⟨rfl, .inl c4⟩)))]
      exact Ev.if_neg c4 j1
theorem inside_eq (l : List Int) (a n : Int) (hn : l.length ≤ 140737488351232) (h0 : 0 ≤ n) (h2 : 0 ≤ a) : wireglassref01_inside.f l a n = some (decide (a + n ≤ 8 * l.length)) := by
  have h8 : wrap64 (8 * (l.length : Int)) = 8 * (l.length : Int) := w64 (by omega) (by omega)
  unfold wireglassref01_inside.f
  rw [h8]
  by_cases c : a ≤ 8 * (l.length : Int)
  · rw [if_pos c, w64 (by omega) (by omega)]
    congr 1
    by_cases c2 : a + n ≤ 8 * (l.length : Int)
    · rw [decide_eq_true c2, decide_eq_true (by omega)]
    · rw [decide_eq_false c2, decide_eq_false (by omega)]
  · rw [if_neg c, decide_eq_false (by omega)]
theorem ref_asked_ev (l : List Int) (a n : Int) (low : Bool) (hn : l.length ≤ 140737488351232) (ha : (Lit.int .i64 a).wf = true) : Ev (fun k => wireglassref01_asked.f k l a n low) (askE l a n low) := by
  have ha' := wf64 ha
  have j1 : Ev (fun k => wireglassref01_asked.j0 k l a n true) 1 := Ev.step (f := fun _ => some 1) (fun k => by rw [wireglassref01_asked.j0, if_pos rfl]) (Ev.now _)
  have j0 : 0 ≤ n → n ≤ 48 → 0 ≤ a → Ev (fun k => wireglassref01_asked.j0 k l a n false) (if a + n ≤ 8 * l.length then 0 else 4) := fun h0 h1 h2 =>
    Ev.step (f := fun _ => some (if a + n ≤ 8 * l.length then 0 else 4)) (fun k => by
      rw [wireglassref01_asked.j0, if_neg (by decide), inside_eq l a n hn h0 h2]
      simp only [Option.bind_some]
      by_cases c : a + n ≤ 8 * (l.length : Int)
      · rw [decide_eq_true c, if_pos rfl, if_pos c]
      · rw [decide_eq_false c, if_neg (by decide), if_neg c]) (Ev.now _)
  unfold wireglassref01_asked.f askE
  by_cases c1 : n < 0
  · rw [if_pos (.inl c1)]; exact Ev.if_pos c1 j1
  refine Ev.if_neg c1 ?_
  by_cases c2 : n > 48
  · rw [if_pos (.inr (.inl c2))]; exact Ev.if_pos c2 j1
  refine Ev.if_neg c2 ?_
  by_cases c3 : a < 0
  · rw [if_pos (.inr (.inr (.inl c3)))]; exact Ev.if_pos c3 j1
  refine Ev.if_neg c3 ?_
  cases low with
  | false =>
    rw [if_neg (by simp; omega)]
    exact Ev.if_neg (by decide) (j0 (by omega) (by omega) (by omega))
  | true =>
    refine Ev.if_pos rfl ?_
    by_cases c4 : Int.tmod n 8 = 0
    · refine Ev.if_pos c4 ?_
      by_cases c5 : Int.tmod a 8 = 0
      · rw [if_neg (by simp [c4, c5]; omega), show (Int.tmod a 8 != 0) = false from bne_eq_false_iff_eq.mpr c5]
        exact j0 (by omega) (by omega) (by omega)
      · rw [if_pos (.inr (.inr (.inr ⟨rfl, .inr c5⟩))), bne_iff_ne.mpr c5]
        exact j1
    · rw [if_pos (.inr (.inr (.inr ⟨rfl, .inl c4⟩)))]
      exact Ev.if_neg c4 j1
theorem askE_ok {l : List Int} {a n : Int} {low : Bool} (h : askE l a n low = 0) : 0 ≤ n ∧ n ≤ 48 ∧ 0 ≤ a ∧ a + n ≤ 8 * l.length ∧ (low = true → Int.tmod n 8 = 0 ∧ Int.tmod a 8 = 0) := by
  unfold askE at h
  by_cases c : n < 0 ∨ 48 < n ∨ a < 0 ∨ low = true ∧ (Int.tmod n 8 ≠ 0 ∨ Int.tmod a 8 ≠ 0)
  · rw [if_pos c] at h; cases h
  · rw [if_neg c] at h
    by_cases c2 : a + n ≤ 8 * (l.length : Int)
    · refine ⟨by omega, by omega, by omega, c2, fun hl => ?_⟩
      constructor
      · exact Classical.byContradiction fun h2 => c (.inr (.inr (.inr ⟨hl, .inl h2⟩)))
      · exact Classical.byContradiction fun h2 => c (.inr (.inr (.inr ⟨hl, .inr h2⟩)))
    · rw [if_neg c2] at h; cases h

/-! ### the number, bit by bit -/
theorem sh_eq (k : Nat) (hk : k < 2251799813685248) : wrap64 (7 - Int.tmod (k : Int) 8) = ((7 - k % 8 : Nat) : Int) ∧ wrap64 (Int.tdiv (k : Int) 8) = ((k / 8 : Nat) : Int) := by
  rw [tmod_pos (by omega), tdiv_pos (by omega), w64 (by omega) (by omega), w64 (by omega) (by omega)]
  omega
theorem bit_bits {l : List Int} (hl : ∀ x ∈ l, 0 ≤ x ∧ x ≤ 255) (k : Nat) : wrap64 (Go.bits .and .u8 (shr .u8 (rd l ((k / 8 : Nat) : Int)) ((7 - k % 8 : Nat) : Int)) 1) = bitv l k := by
  have hb := rd_byte hl ((k / 8 : Nat) : Int)
  have hs : shr .u8 (rd l ((k / 8 : Nat) : Int)) ((7 - k % 8 : Nat) : Int) = rd l ((k / 8 : Nat) : Int) / 2 ^ (7 - k % 8) := shr_eq (by rw [show IntKind.u8.bits = 8 from rfl]; omega)
  rw [hs]
  unfold bitv
  generalize 7 - k % 8 = s
  generalize rd l ((k / 8 : Nat) : Int) = c at *
  obtain ⟨m, rfl⟩ := Int.eq_ofNat_of_zero_le hb.1
  have hm : m / 2 ^ s ≤ m := Nat.div_le_self _ _
  have hc : (m : Int) / 2 ^ s = ((m / 2 ^ s : Nat) : Int) := by rw [← p2]; rfl
  rw [hc]
  generalize m / 2 ^ s = q at *
  have e : Go.bits .and .u8 (q : Int) 1 = ((q &&& 1 : Nat) : Int) := u8_and_nat q 1 (by omega) (by decide)
  rw [e, nat_mask1, w64 (by omega) (by omega)]
  omega
theorem bit_ref {l : List Int} (hl : ∀ x ∈ l, 0 ≤ x ∧ x ≤ 255) (k : Nat) (hk : k < 8 * l.length) (hn : l.length ≤ 140737488351232) : wireglassref01_bit.f l (k : Int) = some (bitv l k) := by
  have hb := rd_byte hl ((k / 8 : Nat) : Int)
  obtain ⟨h1, h2⟩ := sh_eq k (by omega)
  unfold wireglassref01_bit.f
  rw [h1, h2, if_pos (by omega), if_pos (by omega), if_pos (by omega), w64 (n := rd l _) (by omega) (by omega)]
  have hs : shr .i64 (rd l ((k / 8 : Nat) : Int)) ((7 - k % 8 : Nat) : Int) = rd l ((k / 8 : Nat) : Int) / 2 ^ (7 - k % 8) := shr_eq (by rw [show IntKind.i64.bits = 64 from rfl]; omega)
  rw [hs, tmod_pos (Int.ediv_nonneg hb.1 (Int.le_of_lt (p2_pos _)))]
  rfl
theorem or1 {x y : Int} (hx0 : 0 ≤ x) (hx : x < 4611686018427387904) (hy0 : 0 ≤ y) (hy : y ≤ 1) : Go.bits .or .i64 (wrap64 (x * 2)) y = 2 * x + y := by
  rw [w64 (by omega) (by omega), or_i64 _ _ (by omega) (by omega) hy0 (by omega)]
  obtain ⟨a, rfl⟩ := Int.eq_ofNat_of_zero_le hx0
  obtain ⟨b, rfl⟩ := Int.eq_ofNat_of_zero_le hy0
  have e := Nat.two_pow_add_eq_or_of_lt (i := 1) (b := b) (by omega) a
  rw [show ((a : Int) * 2).toNat = 2 ^ 1 * a by omega, Int.toNat_natCast, ← e]
  omega
theorem get_loop {l : List Int} (hl : ∀ x ∈ l, 0 ≤ x ∧ x ≤ 255) (hn : l.length ≤ 140737488351232) (a n : Nat) (hn48 : n ≤ 48) (hfit : a + n ≤ 8 * l.length) (low : Bool) (r : Int × Int)
    (h : Ev (fun k => if low = true then ((bits_turned.f k (num l a n) (n : Int)).bind fun t103 => (some (t103, 0))) else (some (num l a n, 0))) r) (d : Nat) :
    ∀ j : Nat, j + d = n → Ev (fun k => bits_Get.l0 k l (a : Int) (n : Int) low (num l a j) ((a + j : Nat) : Int)) r := by
  induction d with
  | zero =>
    intro j hj
    obtain rfl : j = n := by omega
    have e : wrap64 ((a : Int) + (j : Int)) = ((a + j : Nat) : Int) := by rw [w64 (by omega) (by omega)]; omega
    refine Ev.step (fun k => ?_) h
    rw [bits_Get.l0, e, if_neg (by omega)]
  | succ d ih =>
    intro j hj
    have ih := ih (j + 1) (by omega)
    have e : wrap64 ((a : Int) + (n : Int)) = ((a + n : Nat) : Int) := by rw [w64 (by omega) (by omega)]; omega
    have e2 : wrap64 (((a + j : Nat) : Int) + 1) = ((a + (j + 1) : Nat) : Int) := by rw [w64 (by omega) (by omega)]; omega
    obtain ⟨h1, h2⟩ := sh_eq (a + j) (by omega)
    have hb := num_bd l a j
    have hp := p2_le (show j ≤ 48 by omega)
    have e48 : (2 : Int) ^ 48 = 281474976710656 := by decide
    have hbit := bitv_bd l (a + j)
    refine Ev.step (fun k => ?_) ih
    rw [bits_Get.l0, e, if_pos (by omega), h1, h2, if_pos (by omega), if_pos (by omega), if_pos (by omega), bit_bits hl, e2, or1 hb.1 (by omega) hbit.1 hbit.2]
    rfl
theorem number_loop {l : List Int} (hl : ∀ x ∈ l, 0 ≤ x ∧ x ≤ 255) (hn : l.length ≤ 140737488351232) (a n : Nat) (hn48 : n ≤ 48) (hfit : a + n ≤ 8 * l.length) (d : Nat) :
    ∀ j : Nat, j + d = n → Ev (fun k => wireglassref01_number.l0 k l (a : Int) (n : Int) (num l a j) ((a + j : Nat) : Int)) (num l a n) := by
  induction d with
  | zero =>
    intro j hj
    obtain rfl : j = n := by omega
    have e : wrap64 ((a : Int) + (j : Int)) = ((a + j : Nat) : Int) := by rw [w64 (by omega) (by omega)]; omega
    refine Ev.step (f := fun _ => some (num l a j)) (fun k => ?_) (Ev.now _)
    rw [wireglassref01_number.l0, e, if_neg (by omega)]
  | succ d ih =>
    intro j hj
    have ih := ih (j + 1) (by omega)
    have e : wrap64 ((a : Int) + (n : Int)) = ((a + n : Nat) : Int) := by rw [w64 (by omega) (by omega)]; omega
    have e2 : wrap64 (((a + j : Nat) : Int) + 1) = ((a + (j + 1) : Nat) : Int) := by rw [w64 (by omega) (by omega)]; omega
    have hb := num_bd l a j
    have hp := p2_le (show j ≤ 48 by omega)
    have e48 : (2 : Int) ^ 48 = 281474976710656 := by decide
    have hbit := bitv_bd l (a + j)
    refine Ev.step (fun k => ?_) ih
    rw [wireglassref01_number.l0, e, if_pos (by omega), bit_ref hl _ (by omega) hn, Option.bind_some, e2, w64 (n := 2 * num l a j) (by omega) (by omega), w64 (by omega) (by omega)]
    rfl
theorem number_ev {l : List Int} (hl : ∀ x ∈ l, 0 ≤ x ∧ x ≤ 255) (hn : l.length ≤ 140737488351232) (a n : Nat) (hn48 : n ≤ 48) (hfit : a + n ≤ 8 * l.length) : Ev (fun k => wireglassref01_number.f k l (a : Int) (n : Int)) (num l a n) :=
  number_loop hl hn a n hn48 hfit n 0 (by omega)
end Go.Proofs.Ytifalpoabgofkaa.Pure
