/- Bytes taken out of bits, in plain Lean: what Bytes comes to in the program and in the reference, and the statement BitsBytes. Conditions: the numbers are those of their kinds. -/
import Derived.Test.YtifalpoabgofkaaGx6
import Derived.Test.YtifalpoabgofkaaGx7
import Derived.Test.YtifalpoabgofkaaQ6
namespace Go.Proofs.Ytifalpoabgofkaa.Pure
open Go.RowKit Go.Proofs.Ytifalpoabgofkaa.G Go.Proofs.YtifalpoabgofkaaW.PrintWords Go.Proofs.YtifalpoabgofkaaW.PrintLast Hand
set_option linter.unusedVariables false

/-- n bytes from bit a on. -/
def bytesL (l : List Int) (a : Nat) : Nat → List Int
  | 0 => []
  | n + 1 => bytesL l a n ++ [num l (a + 8 * n) 8]
theorem bytesL_len (l : List Int) (a : Nat) : ∀ n, (bytesL l a n).length = n
  | 0 => rfl
  | n + 1 => by rw [bytesL, List.length_append, bytesL_len l a n]; rfl
/-- What Bytes comes to. -/
def bytesV (l : List Int) (a n : Int) : List Int × Int :=
  if a < 0 ∨ n < 0 then ([], 1) else if n ≤ l.length ∧ a + 8 * n ≤ 8 * l.length then (bytesL l a.toNat n.toNat, 0) else ([], 4)
theorem num8_mod (l : List Int) (a : Nat) : num l a 8 % 256 = num l a 8 := by
  have := num_bd l a 8
  have e : (2 : Int) ^ 8 = 256 := by decide
  omega
theorem bits_bytes_loop {l : List Int} (hl : ∀ x ∈ l, 0 ≤ x ∧ x ≤ 255) (hn : l.length ≤ 140737488351232) (a n : Nat) (hn2 : n ≤ l.length) (hfit : a + 8 * n ≤ 8 * l.length) (d : Nat) :
    ∀ j : Nat, j + d = n → Ev (fun k => bits_Bytes.l0 k l (a : Int) (bytesL l a j) (n : Int) (j : Int)) (bytesL l a n, 0) := by
  induction d with
  | zero =>
    intro j hj
    obtain rfl : j = n := by omega
    refine Ev.step (f := fun _ => some (bytesL l a j, 0)) (fun k => ?_) (Ev.now _)
    rw [bits_Bytes.l0, if_neg (by omega)]
  | succ d ih =>
    intro j hj
    have ih := ih (j + 1) (by omega)
    have e1 : wrap64 ((a : Int) + wrap64 (8 * (j : Int))) = ((a + 8 * j : Nat) : Int) := by
      rw [w64 (n := 8 * (j : Int)) (by omega) (by omega), w64 (by omega) (by omega)]; omega
    have e2 : wrap64 ((j : Int) + 1) = ((j + 1 : Nat) : Int) := by rw [w64 (by omega) (by omega)]; omega
    have hg := bits_get_ev hl hn (a := ((a + 8 * j : Nat) : Int)) (n := 8) (by simp [Lit.wf, IntKind.min, IntKind.max, IntKind.signed, IntKind.bits]; omega) false
    have hv : getV l ((a + 8 * j : Nat) : Int) 8 false = (num l (a + 8 * j) 8, 0) := by
      unfold getV
      rw [if_pos (by unfold askE; rw [if_neg (by simp; omega), if_pos (by omega)]), if_neg (by decide), Int.toNat_natCast]
      rfl
    rw [hv] at hg
    have hlen := bytesL_len l a j
    refine Ev.step (f := fun k => (bits_Get.f k l ((a + 8 * j : Nat) : Int) 8 false).bind fun bt => bits_Bytes.l0 k l (a : Int) (bytesL l a j ++ [bt.1 % 256]) (n : Int) ((j + 1 : Nat) : Int)) (fun k => ?_) (Ev.bind hg ?_)
    · rw [bits_Bytes.l0, if_pos (by omega), e1, e2]
      congr 1
      funext bt
      rw [if_pos (by omega)]
    · rw [num8_mod]
      exact ih
theorem ref_bytes_loop {l : List Int} (hl : ∀ x ∈ l, 0 ≤ x ∧ x ≤ 255) (hn : l.length ≤ 140737488351232) (a n : Nat) (hn2 : n ≤ l.length) (hfit : a + 8 * n ≤ 8 * l.length) (d : Nat) :
    ∀ j : Nat, j + d = n → Ev (fun k => wireglassref01_Bytes.l0 k l (a : Int) (n : Int) (bytesL l a j) (j : Int)) (bytesL l a n, 0) := by
  induction d with
  | zero =>
    intro j hj
    obtain rfl : j = n := by omega
    refine Ev.step (f := fun _ => some (bytesL l a j, 0)) (fun k => ?_) (Ev.now _)
    rw [wireglassref01_Bytes.l0, if_neg (by omega)]
  | succ d ih =>
    intro j hj
    have ih := ih (j + 1) (by omega)
    have e1 : wrap64 ((a : Int) + wrap64 (8 * (j : Int))) = ((a + 8 * j : Nat) : Int) := by
      rw [w64 (n := 8 * (j : Int)) (by omega) (by omega), w64 (by omega) (by omega)]; omega
    have e2 : wrap64 ((j : Int) + 1) = ((j + 1 : Nat) : Int) := by rw [w64 (by omega) (by omega)]; omega
    have hg := number_ev hl hn (a + 8 * j) 8 (by omega) (by omega)
    have hlen := bytesL_len l a j
    refine Ev.step (f := fun k => (wireglassref01_number.f k l ((a + 8 * j : Nat) : Int) 8).bind fun t => wireglassref01_Bytes.l0 k l (a : Int) (n : Int) (bytesL l a j ++ [t % 256]) ((j + 1 : Nat) : Int)) (fun k => ?_) (Ev.bind hg ?_)
    · rw [wireglassref01_Bytes.l0, if_pos (by omega), e1, e2]
      congr 1
      funext t
      rw [if_pos (by omega)]
    · rw [num8_mod]
      exact ih
theorem bits_bytes_ev {l : List Int} (hl : ∀ x ∈ l, 0 ≤ x ∧ x ≤ 255) (hn : l.length ≤ 140737488351232) {a n : Int} (ha : (Lit.int .i64 a).wf = true) (hnw : (Lit.int .i64 n).wf = true) : Ev (fun k => bits_Bytes.f k l a n) (bytesV l a n) := by
  have ha' := wf64 ha
  have hn' := wf64 hnw
  have j1 : Ev (fun k => bits_Bytes.j0 k l a n true) ([], 1) := Ev.step (f := fun _ => some ([], 1)) (fun k => by rw [bits_Bytes.j0, if_pos rfl]) (Ev.now _)
  have j4 : Ev (fun k => bits_Bytes.j1 k l a n true) ([], 4) := Ev.step (f := fun _ => some ([], 4)) (fun k => by rw [bits_Bytes.j1, if_pos rfl]) (Ev.now _)
  unfold bits_Bytes.f bytesV
  by_cases c1 : a < 0
  · rw [if_pos (.inl c1)]; exact Ev.if_pos c1 j1
  refine Ev.if_neg c1 ?_
  by_cases c2 : n < 0
  · rw [if_pos (.inr c2), decide_eq_true c2]; exact j1
  rw [if_neg (by omega), decide_eq_false c2]
  by_cases c3 : n ≤ (l.length : Int)
  · have e : wrap64 (8 * wrap64 ((l.length : Int) - n)) = 8 * (l.length - n) := by rw [w64 (n := (l.length : Int) - n) (by omega) (by omega), w64 (by omega) (by omega)]
    by_cases c4 : a + 8 * n ≤ 8 * (l.length : Int)
    · rw [if_pos ⟨c3, c4⟩]
      refine Ev.step (f := fun k => bits_Bytes.j1 k l a n false) (fun k => ?_) ?_
      · rw [bits_Bytes.j0, if_neg (by decide), if_neg (by omega), e, decide_eq_false (by omega)]
      refine Ev.step (f := fun k => bits_Bytes.l0 k l a [] n 0) (fun k => ?_) ?_
      · rw [bits_Bytes.j1, if_neg (by decide)]
      obtain ⟨A, rfl⟩ := Int.eq_ofNat_of_zero_le (show 0 ≤ a by omega)
      obtain ⟨N, rfl⟩ := Int.eq_ofNat_of_zero_le (show 0 ≤ n by omega)
      exact bits_bytes_loop hl hn A N (by omega) (by omega) N 0 (by omega)
    · rw [if_neg (fun h => c4 h.2)]
      refine Ev.step (fun k => ?_) j4
      rw [bits_Bytes.j0, if_neg (by decide), if_neg (by omega), e, decide_eq_true (by omega)]
  · rw [if_neg (fun h => c3 h.1)]
    refine Ev.step (fun k => ?_) j4
    rw [bits_Bytes.j0, if_neg (by decide), if_pos (by omega)]
theorem ref_bytes_ev {l : List Int} (hl : ∀ x ∈ l, 0 ≤ x ∧ x ≤ 255) (hn : l.length ≤ 140737488351232) {a n : Int} (ha : (Lit.int .i64 a).wf = true) (hnw : (Lit.int .i64 n).wf = true) : Ev (fun k => wireglassref01_Bytes.f k l a n) (bytesV l a n) := by
  have ha' := wf64 ha
  have hn' := wf64 hnw
  have j1 : Ev (fun k => wireglassref01_Bytes.j0 k l a n true) ([], 1) := Ev.step (f := fun _ => some ([], 1)) (fun k => by rw [wireglassref01_Bytes.j0, if_pos rfl]) (Ev.now _)
  have j4 : Ev (fun k => wireglassref01_Bytes.j1 k l a n true) ([], 4) := Ev.step (f := fun _ => some ([], 4)) (fun k => by rw [wireglassref01_Bytes.j1, if_pos rfl]) (Ev.now _)
  unfold wireglassref01_Bytes.f bytesV
  by_cases c1 : n < 0
  · rw [if_pos (.inr c1)]; exact Ev.if_pos c1 j1
  refine Ev.if_neg c1 ?_
  by_cases c2 : a < 0
  · rw [if_pos (.inl c2), decide_eq_true c2]; exact j1
  rw [if_neg (by omega), decide_eq_false c2]
  by_cases c3 : n ≤ (l.length : Int)
  · have e : wrap64 (8 * n) = 8 * n := w64 (by omega) (by omega)
    have hi := inside_eq l a (8 * n) hn (by omega) (by omega)
    by_cases c4 : a + 8 * n ≤ 8 * (l.length : Int)
    · rw [if_pos ⟨c3, c4⟩]
      rw [decide_eq_true c4] at hi
      refine Ev.step (f := fun k => wireglassref01_Bytes.j1 k l a n false) (fun k => ?_) ?_
      · rw [wireglassref01_Bytes.j0, if_neg (by decide), if_neg (by omega), e, hi]; rfl
      refine Ev.step (f := fun k => wireglassref01_Bytes.l0 k l a n [] 0) (fun k => ?_) ?_
      · rw [wireglassref01_Bytes.j1, if_neg (by decide)]
      obtain ⟨A, rfl⟩ := Int.eq_ofNat_of_zero_le (show 0 ≤ a by omega)
      obtain ⟨N, rfl⟩ := Int.eq_ofNat_of_zero_le (show 0 ≤ n by omega)
      exact ref_bytes_loop hl hn A N (by omega) (by omega) N 0 (by omega)
    · rw [if_neg (fun h => c4 h.2)]
      rw [decide_eq_false c4] at hi
      refine Ev.step (fun k => ?_) j4
      rw [wireglassref01_Bytes.j0, if_neg (by decide), if_neg (by omega), e, hi]; rfl
  · rw [if_neg (fun h => c3 h.1)]
    refine Ev.step (fun k => ?_) j4
    rw [wireglassref01_Bytes.j0, if_neg (by decide), if_pos (by omega)]
theorem same_bytes (l : List Int) : wireglassref01_SameBytes.f l l = some true := by
  unfold wireglassref01_SameBytes.f
  rw [beq_self_eq_true]
theorem BitsBytes : wireglasslaw01_BitsBytes.Pure := by
  intro l a n hm hn hl ha hnw
  have hb := bytes_wf hl
  refine Ev.rounds (g := fun k => wireglasslaw01_BitsBytes.f k l a n) ?_
  unfold wireglasslaw01_BitsBytes.f
  by_cases c : (l.length : Int) > 20000
  · exact Ev.if_pos c known_b
  · refine Ev.if_neg c (Ev.bind (bits_bytes_ev hb (by omega) ha hnw) (Ev.bind (ref_bytes_ev hb (by omega) ha hnw) ?_))
    simp only [same_bytes, Option.bind_some]
    exact known_b
end Go.Proofs.Ytifalpoabgofkaa.Pure
