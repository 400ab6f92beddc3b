/- What the functions of layer 1 (bits) come to, in plain Lean: known, the mended checks, the signs. Conditions: the numbers are those of their kinds. -/
import Derived.Test.YtifalpoabgofkaaGx2
import Derived.Test.YtifalpoabgofkaaGx3
import Derived.Test.YtifalpoabgofkaaGx5
import Derived.Test.YtifalpoabgofkaaGx6
import Derived.Test.YtifalpoabgofkaaHPure
namespace Go.Proofs.Ytifalpoabgofkaa.Pure
open Go.RowKit Go.Proofs.Ytifalpoabgofkaa.G Go.Proofs.YtifalpoabgofkaaW.PrintWords Go.Proofs.YtifalpoabgofkaaW.PrintLast Hand
set_option linter.unusedVariables false
theorem get_k : bits_Get.f 30 (([240, 15] : List Int)) 0 16 true = some (4080, 0) := by decide +kernel
theorem seven_k : bits_Seven.f 300 = some ([172, 2], 0) := by decide +kernel
theorem sum_k : bits_Sum.f 30 (([0, 1, 242, 3] : List Int)) = some 3579 := by decide +kernel
theorem crc_k : bits_Crc.f ((([49, 50, 51, 52, 53, 54, 55, 56, 57] : List Int))) = some 3421780262 := by decide +kernel
theorem str_k : (strOfNums [172, 2]).toList = ([172, 2] : List UInt8) := by decide +kernel
theorem known_k : wireglasslaw01_known.f 30 = some true := by
  unfold wireglasslaw01_known.f
  rw [get_k, seven_k, sum_k, crc_k]
  simp only [Option.bind_some, str_k]
  rfl
theorem known_ev : Ev (fun k => wireglasslaw01_known.f k) true := Ev.of (fun k => wireglasslaw01_known.mono k) known_k
theorem known_b : Ev (fun k => (wireglasslaw01_known.f k).bind fun t => some t) true := Ev.bind known_ev (Ev.now true)

/-- What folding comes to. -/
def fold (n : Int) : Int := if n = 0 then 0 else (n - 1) % 65535 + 1
theorem fold_low {n : Int} (h0 : 0 ≤ n) (h1 : n ≤ 65535) : fold n = n := by unfold fold; split <;> omega
theorem fold_step {n : Int} (h0 : 65535 < n) : fold (n / 65536 + n % 65536) = fold n := by
  unfold fold
  rw [if_neg (by omega), if_neg (by omega)]
  omega
theorem fold_bd {n : Int} (h0 : 0 ≤ n) : 0 ≤ fold n ∧ fold n ≤ 65535 := by unfold fold; split <;> omega
theorem folded_ev (d : Nat) : ∀ n : Int, 0 ≤ n → n < 4611686018427387904 → n ≤ d → Ev (fun k => bits_folded.f k n) (fold n) ∧ Ev (fun k => wireglassref01_folded.f k n) (fold n) := by
  induction d using Nat.strongRecOn with
  | _ d ih =>
    intro n h0 h1 hd
    by_cases h : n > 65535
    · have h2 := ih (n / 65536 + n % 65536).toNat (by omega) (n / 65536 + n % 65536) (by omega) (by omega) (by omega)
      rw [fold_step (by omega)] at h2
      refine ⟨Ev.step (f := fun k => bits_folded.f k (n / 65536 + n % 65536)) (fun k => ?_) h2.1, Ev.step (f := fun k => wireglassref01_folded.f k (n / 65536 + n % 65536)) (fun k => ?_) h2.2⟩
      · show bits_folded.l0 (k + 1) n = bits_folded.l0 k _
        rw [bits_folded.l0, if_pos h, and16, w64 (by omega) (by omega)]
      · show wireglassref01_folded.l0 (k + 1) n = wireglassref01_folded.l0 k _
        rw [wireglassref01_folded.l0, if_pos h, tmod_pos (by omega), tdiv_pos (by omega), w64 (n := n / 65536) (by omega) (by omega), w64 (by omega) (by omega), Int.add_comm]
    · rw [fold_low (by omega) (by omega)]
      refine ⟨Ev.step (f := fun _ => some n) (fun k => ?_) (Ev.now n), Ev.step (f := fun _ => some n) (fun k => ?_) (Ev.now n)⟩
      · unfold bits_folded.f bits_folded.l0; rw [if_neg h]
      · unfold wireglassref01_folded.f wireglassref01_folded.l0; rw [if_neg h]
theorem bits_folded_ev {n : Int} (h0 : 0 ≤ n) (h1 : n < 4611686018427387904) : Ev (fun k => bits_folded.f k n) (fold n) := (folded_ev n.toNat n h0 h1 (by omega)).1
theorem ref_folded_ev {n : Int} (h0 : 0 ≤ n) (h1 : n < 4611686018427387904) : Ev (fun k => wireglassref01_folded.f k n) (fold n) := (folded_ev n.toNat n h0 h1 (by omega)).2
theorem not16 {a : Int} (h : (Lit.int .i64 a).wf = true) : Go.bits .and .i64 (Go.bits .xor .i64 (-1) a) 65535 = 65535 - a % 65536 := by
  have := wf64 h
  rw [and16, not_i64 _ (by omega) (by omega)]
  omega
theorem not16' {a : Int} (h0 : 0 ≤ a) (h1 : a ≤ 65535) : Go.bits .and .i64 (Go.bits .xor .i64 (-1) a) 65535 = 65535 - a := by
  rw [and16, not_i64 _ (by omega) (by omega)]
  omega
def mendV (a b c : Int) : Int := 65535 - fold (65535 - a % 65536 + (65535 - b % 65536) + c % 65536)
theorem mend_bits {a b c : Int} (ha : (Lit.int .i64 a).wf = true) (hb : (Lit.int .i64 b).wf = true) (hc : (Lit.int .i64 c).wf = true) : Ev (fun k => bits_Mend.f k a b c) (mendV a b c) := by
  have hf := bits_folded_ev (n := 65535 - a % 65536 + (65535 - b % 65536) + c % 65536) (by omega) (by omega)
  have hb2 := fold_bd (n := 65535 - a % 65536 + (65535 - b % 65536) + c % 65536) (by omega)
  refine Ev.congr (f := fun k => (bits_folded.f k (65535 - a % 65536 + (65535 - b % 65536) + c % 65536)).bind fun t => some (Go.bits .and .i64 (Go.bits .xor .i64 (-1) t) 65535)) (fun k => ?_) (Ev.bind hf ?_)
  · unfold bits_Mend.f
    rw [not16 ha, not16 hb, and16, w64 (n := 65535 - a % 65536 + (65535 - b % 65536)) (by omega) (by omega), w64 (by omega) (by omega)]
  · unfold mendV
    rw [not16' hb2.1 hb2.2]
    exact Ev.now _
theorem mend_ref {a b c : Int} (ha : (Lit.int .i64 a).wf = true) (hb : (Lit.int .i64 b).wf = true) (hc : (Lit.int .i64 c).wf = true) : Ev (fun k => wireglassref01_Mend.f k a b c) (mendV a b c) := by
  have hf := ref_folded_ev (n := 65535 - a % 65536 + (65535 - b % 65536) + c % 65536) (by omega) (by omega)
  have hb2 := fold_bd (n := 65535 - a % 65536 + (65535 - b % 65536) + c % 65536) (by omega)
  refine Ev.congr (f := fun k => (wireglassref01_folded.f k (65535 - a % 65536 + (65535 - b % 65536) + c % 65536)).bind fun t => some (wrap64 (65535 - t))) (fun k => ?_) (Ev.bind hf ?_)
  · unfold wireglassref01_Mend.f wireglassref01_low.f
    simp only [Option.bind_some]
    rw [low_mod (by decide) (by decide), low_mod (by decide) (by decide), low_mod (by decide) (by decide), w64 (n := 65535 - a % 65536) (by omega) (by omega), w64 (n := 65535 - a % 65536 + 65535) (by omega) (by omega), w64 (n := 65535 - a % 65536 + 65535 - b % 65536) (by omega) (by omega), w64 (by omega) (by omega)]
    rw [show 65535 - a % 65536 + 65535 - b % 65536 + c % 65536 = 65535 - a % 65536 + (65535 - b % 65536) + c % 65536 by omega]
  · unfold mendV
    rw [w64 (by omega) (by omega)]
    exact Ev.now _

theorem BitsMends : wireglasslaw01_BitsMends.Pure := by
  intro a b c ha hb hc
  refine Ev.rounds (g := fun k => wireglasslaw01_BitsMends.f k a b c) (Ev.bind (mend_bits ha hb hc) (Ev.bind (mend_ref ha hb hc) (Ev.if_pos rfl known_b)))

/-! ### the signs -/
theorem signed_bits {v n : Int} (hv : (Lit.int .i64 v).wf = true) (hn : (Lit.int .i64 n).wf = true) :
    Ev (fun k => bits_Signed.f k v n) (if n < 1 ∨ 48 < n then (0, 1) else if v < 0 ∨ 2 ^ n.toNat ≤ v then (0, 10) else if 2 ^ (n.toNat - 1) ≤ v then (v - 2 ^ n.toNat, 0) else (v, 0)) ∧
    Ev (fun k => wireglassref01_Signed.f k v n) (if n < 1 ∨ 48 < n then (0, 1) else if v < 0 ∨ 2 ^ n.toNat ≤ v then (0, 10) else if 2 ^ (n.toNat - 1) ≤ v then (v - 2 ^ n.toNat, 0) else (v, 0)) := by
  have hv' := wf64 hv
  by_cases c1 : n < 1 ∨ 48 < n
  · rw [if_pos c1]
    have h1 : ∀ k, bits_Signed.f (k + 1) v n = some (0, 1) := fun k => by
      unfold bits_Signed.f
      by_cases a : n < 1
      · rw [if_pos a]; simp [bits_Signed.j0]
      · rw [if_neg a, decide_eq_true (by omega)]; simp [bits_Signed.j0]
    have h2 : ∀ k, wireglassref01_Signed.f (k + 1) v n = some (0, 1) := fun k => by
      unfold wireglassref01_Signed.f
      by_cases a : n < 1
      · rw [if_pos a]; simp [wireglassref01_Signed.j0]
      · rw [if_neg a, decide_eq_true (by omega)]; simp [wireglassref01_Signed.j0]
    exact ⟨Ev.step h1 (Ev.now _), Ev.step h2 (Ev.now _)⟩
  rw [if_neg c1]
  obtain ⟨m, rfl⟩ := Int.eq_ofNat_of_zero_le (show 0 ≤ n by omega)
  have hm0 : 1 ≤ m := by omega
  have hm1 : m ≤ 48 := by omega
  rw [Int.toNat_natCast]
  have hp := p2_pos m
  have hp2 := p2_pos (m - 1)
  have hp3 : (2 : Int) ^ m = 2 * 2 ^ (m - 1) := by rw [← p2_succ, show m - 1 + 1 = m by omega]
  have hp4 := p2_le hm1
  have e48 : (2 : Int) ^ 48 = 281474976710656 := by decide
  have s1 : shl .i64 1 (m : Int) = 2 ^ m := shl1 (by omega)
  have em : wrap64 ((m : Int) - 1) = ((m - 1 : Nat) : Int) := by rw [w64 (by omega) (by omega)]; omega
  have s2 : shl .i64 1 (wrap64 ((m : Int) - 1)) = 2 ^ (m - 1) := by rw [em]; exact shl1 (by omega)
  have r1 : shr .i64 v (m : Int) = v / 2 ^ m := shr_eq (by rw [show IntKind.i64.bits = 64 from rfl]; omega)
  have r2 : shr .i64 v (wrap64 ((m : Int) - 1)) = v / 2 ^ (m - 1) := by rw [em]; exact shr_eq (by rw [show IntKind.i64.bits = 64 from rfl]; omega)
  have d1 : decide ((m : Int) > 48) = false := decide_eq_false (by omega)
  have n1 : ¬ (m : Int) < 1 := by omega
  by_cases c2 : v < 0 ∨ 2 ^ m ≤ v
  · rw [if_pos c2]
    have h1 : ∀ k, bits_Signed.f (k + 2) v m = some (0, 10) := fun k => by
      unfold bits_Signed.f
      rw [if_neg n1, d1, bits_Signed.j0, if_neg (by decide)]
      by_cases a : v < 0
      · rw [if_pos a]; simp [bits_Signed.j1]
      · rw [if_neg a, if_pos (by omega), s1, decide_eq_true (by omega)]; simp [bits_Signed.j1]
    have h2 : ∀ k, wireglassref01_Signed.f (k + 2) v m = some (0, 10) := fun k => by
      unfold wireglassref01_Signed.f
      rw [if_neg n1, d1, wireglassref01_Signed.j0, if_neg (by decide)]
      by_cases a : v < 0
      · rw [if_pos a]; simp [wireglassref01_Signed.j1]
      · have hq : 1 ≤ v / 2 ^ m := by
          rw [Int.le_ediv_iff_mul_le hp]; omega
        rw [if_neg a, if_pos (by omega), r1, bne_iff_ne.mpr (by omega)]; simp [wireglassref01_Signed.j1]
    exact ⟨Ev.step (fun k => h1 k) (Ev.now _) |> fun h => Ev.step (f := fun k => bits_Signed.f (k + 1) v m) (fun _ => rfl) h, Ev.step (fun k => h2 k) (Ev.now _) |> fun h => Ev.step (f := fun k => wireglassref01_Signed.f (k + 1) v m) (fun _ => rfl) h⟩
  rw [if_neg c2]
  have c2a : ¬ v < 0 := fun h => c2 (.inl h)
  have c2b : ¬ 2 ^ m ≤ v := fun h => c2 (.inr h)
  have hq0 : v / 2 ^ m = 0 := Int.ediv_eq_zero_of_lt (by omega) (by omega)
  have hq1 : 2 ^ (m - 1) ≤ v ↔ v / 2 ^ (m - 1) = 1 := by
    constructor
    · intro h
      have a1 : 1 ≤ v / 2 ^ (m - 1) := by rw [Int.le_ediv_iff_mul_le hp2]; omega
      have a2 : v / 2 ^ (m - 1) < 2 := by rw [Int.ediv_lt_iff_lt_mul hp2]; omega
      omega
    · intro h
      have : 1 ≤ v / 2 ^ (m - 1) := by omega
      rw [Int.le_ediv_iff_mul_le hp2] at this
      omega
  have h1 : ∀ k, bits_Signed.f (k + 2) v m = some (if 2 ^ (m - 1) ≤ v then (v - 2 ^ m, 0) else (v, 0)) := fun k => by
    unfold bits_Signed.f
    rw [if_neg n1, d1, bits_Signed.j0, if_neg (by decide), if_neg c2a, if_pos (by omega), s1, decide_eq_false (by omega), bits_Signed.j1, if_neg (by decide), em, if_pos (by omega), ← em, s2]
    by_cases a : 2 ^ (m - 1) ≤ v
    · rw [if_pos a, if_pos a, if_pos (by omega), s1, w64 (by omega) (by omega)]
    · rw [if_neg a, if_neg a]
  have h2 : ∀ k, wireglassref01_Signed.f (k + 2) v m = some (if 2 ^ (m - 1) ≤ v then (v - 2 ^ m, 0) else (v, 0)) := fun k => by
    unfold wireglassref01_Signed.f
    rw [if_neg n1, d1, wireglassref01_Signed.j0, if_neg (by decide), if_neg c2a, if_pos (by omega), r1, hq0, show ((0 : Int) != 0) = false from rfl, wireglassref01_Signed.j1, if_neg (by decide), em, if_pos (by omega), ← em, r2, s1]
    by_cases a : 2 ^ (m - 1) ≤ v
    · rw [if_pos (hq1.1 a), if_pos a, if_pos (by omega), w64 (by omega) (by omega)]
    · rw [if_neg (fun h => a (hq1.2 h)), if_neg a]
  exact ⟨Ev.step (fun k => h1 k) (Ev.now _) |> fun h => Ev.step (f := fun k => bits_Signed.f (k + 1) v m) (fun _ => rfl) h, Ev.step (fun k => h2 k) (Ev.now _) |> fun h => Ev.step (f := fun k => wireglassref01_Signed.f (k + 1) v m) (fun _ => rfl) h⟩
theorem BitsSigns : wireglasslaw01_BitsSigns.Pure := by
  intro v n hv hn
  obtain ⟨h1, h2⟩ := signed_bits hv hn
  exact Ev.rounds (g := fun k => wireglasslaw01_BitsSigns.f k v n) (Ev.bind h1 (Ev.bind h2 (Ev.if_pos rfl (Ev.if_pos rfl known_b))))
end Go.Proofs.Ytifalpoabgofkaa.Pure
