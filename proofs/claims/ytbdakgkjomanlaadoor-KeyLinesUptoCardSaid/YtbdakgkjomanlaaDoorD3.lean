/- The bytes of hexadecimal digits, in plain Lean: both sides read the same. Conditions: as the lemma says. -/
import Derived.Test.YtbdakgkjomanlaaDoorD2
import Derived.Test.YtbdakgkjomanlaaDoorDx4
import Derived.Test.YtbdakgkjomanlaaDoorDx5
namespace Go.Proofs.YtbdakgkjomanlaaDoor.Pure
open Go.RowKit Go.Proofs.YtbdakgkjomanlaaDoor.D Go.Proofs.YtbdakgkjomanlaaDoorW.PrintWords Go.Proofs.YtbdakgkjomanlaaDoorW.PrintLast Go.Proofs.YtbdakgkjomanlaaDoorW.PrintMore Hand
set_option linter.unusedVariables false
def unhexL (s : ByteArray) : Nat → Nat → List Int → List Int × Int
  | 0, _, acc => (acc, 0)
  | d + 1, i, acc => if digV (bt s (i : Int)) < 0 then ([], 2) else if digV (bt s ((i + 1 : Nat) : Int)) < 0 then ([], 2) else unhexL s d (i + 2) (acc ++ [16 * digV (bt s (i : Int)) + digV (bt s ((i + 1 : Nat) : Int))])
/-- What the bytes of a text of digits are, or that it is wrong. -/
def unhexS (s : ByteArray) : List Int × Int := if s.size % 2 = 0 then unhexL s (s.size / 2) 0 [] else ([], 2)
theorem bt_bd (s : ByteArray) (i : Int) : 0 ≤ bt s i ∧ bt s i ≤ 255 := by
  unfold bt
  split
  · next h =>
    have := UInt8.toNat_lt (s[i.toNat]'h)
    omega
  · omega
theorem two {a b : Int} (a0 : 0 ≤ a) (a1 : a ≤ 15) (b0 : 0 ≤ b) (b1 : b ≤ 15) : Go.bits .or .i64 (wrap64 (a * 16)) b % 256 = 16 * a + b := by
  obtain ⟨n, rfl⟩ := Int.eq_ofNat_of_zero_le a0
  obtain ⟨m, rfl⟩ := Int.eq_ofNat_of_zero_le b0
  have hn : n < 16 := by omega
  have hm : m < 16 := by omega
  have : ∀ n m : Fin 16, Go.bits .or .i64 (wrap64 (((n.val : Nat) : Int) * 16)) ((m.val : Nat) : Int) % 256 = 16 * ((n.val : Nat) : Int) + ((m.val : Nat) : Int) := by decide +kernel
  exact this ⟨n, hn⟩ ⟨m, hm⟩
theorem unhexB_from (s : ByteArray) (hs : s.size ≤ 1000000) : ∀ (d i : Nat) (acc : List Int), i + 2 * d = s.size → acc.length ≤ i → Ev (fun k => bits_Unhex.l0 k s acc (i : Int)) (unhexL s d i acc)
  | 0, i, acc, h, ha => Ev.step (f := fun _ => some (acc, 0)) (fun k => by rw [bits_Unhex.l0, if_neg (by omega)]) (Ev.now _)
  | d + 1, i, acc, h, ha => by
    have b0 := bt_bd s (i : Int)
    have b1 := bt_bd s ((i + 1 : Nat) : Int)
    have d0 := digV_bd (bt s (i : Int))
    have d1 := digV_bd (bt s ((i + 1 : Nat) : Int))
    have e1 : wrap64 ((i : Int) + 1) = ((i + 1 : Nat) : Int) := by rw [w64 (by omega) (by omega)]; omega
    have e2 : wrap64 ((i : Int) + 2) = ((i + 2 : Nat) : Int) := by rw [w64 (by omega) (by omega)]; omega
    rw [unhexL]
    by_cases c0 : digV (bt s (i : Int)) < 0
    · rw [if_pos c0]
      refine Ev.step (f := fun _ => some ([], 2)) (fun k => ?_) (Ev.now _)
      rw [bits_Unhex.l0, if_pos (by omega), if_pos (by omega), digitB b0.1 b0.2, Option.bind_some, e1, if_pos (by omega), if_pos (by omega), digitB b1.1 b1.2, Option.bind_some, if_pos c0]
    rw [if_neg c0]
    by_cases c1 : digV (bt s ((i + 1 : Nat) : Int)) < 0
    · rw [if_pos c1]
      refine Ev.step (f := fun _ => some ([], 2)) (fun k => ?_) (Ev.now _)
      rw [bits_Unhex.l0, if_pos (by omega), if_pos (by omega), digitB b0.1 b0.2, Option.bind_some, e1, if_pos (by omega), if_pos (by omega), digitB b1.1 b1.2, Option.bind_some, if_neg c0, if_pos c1]
    rw [if_neg c1]
    refine Ev.step (fun k => ?_) (unhexB_from s hs d (i + 2) (acc ++ [16 * digV (bt s (i : Int)) + digV (bt s ((i + 1 : Nat) : Int))]) (by omega) (by rw [List.length_append, List.length_singleton]; omega))
    rw [bits_Unhex.l0, if_pos (by omega), if_pos (by omega), digitB b0.1 b0.2, Option.bind_some, e1, if_pos (by omega), if_pos (by omega), digitB b1.1 b1.2, Option.bind_some, if_neg c0, if_neg c1, if_pos (by omega), two (by omega) (by omega) (by omega) (by omega), e2]
theorem unhexB_ev (s : ByteArray) (hs : s.size ≤ 1000000) : Ev (fun k => bits_Unhex.f k s) (unhexS s) := by
  unfold bits_Unhex.f unhexS
  by_cases c : s.size % 2 = 0
  · rw [if_pos c]
    exact Ev.if_pos (by omega) (unhexB_from s hs (s.size / 2) 0 [] (by omega) (Nat.le_refl _))
  · rw [if_neg c]
    exact Ev.if_neg (by omega) (Ev.now _)
theorem unhexR_from (s : ByteArray) (hs : s.size ≤ 1000000) : ∀ (d i : Nat) (acc : List Int), i + 2 * d = s.size → acc.length ≤ i → Ev (fun k => wireglassref01_Unhex.l0 k s acc (i : Int)) (unhexL s d i acc)
  | 0, i, acc, h, ha => Ev.step (f := fun _ => some (acc, 0)) (fun k => by rw [wireglassref01_Unhex.l0, if_neg (by omega)]) (Ev.now _)
  | d + 1, i, acc, h, ha => by
    have b0 := bt_bd s (i : Int)
    have b1 := bt_bd s ((i + 1 : Nat) : Int)
    have d0 := digV_bd (bt s (i : Int))
    have d1 := digV_bd (bt s ((i + 1 : Nat) : Int))
    have e1 : wrap64 ((i : Int) + 1) = ((i + 1 : Nat) : Int) := by rw [w64 (by omega) (by omega)]; omega
    have e2 : wrap64 ((i : Int) + 2) = ((i + 2 : Nat) : Int) := by rw [w64 (by omega) (by omega)]; omega
    have r0 := digitR b0.1 b0.2
    have r1 := digitR b1.1 b1.2
    have ih := unhexR_from s hs d (i + 2) (acc ++ [16 * digV (bt s (i : Int)) + digV (bt s ((i + 1 : Nat) : Int))]) (by omega) (by rw [List.length_append, List.length_singleton]; omega)
    obtain ⟨x, hx⟩ : ∃ x, digV (bt s (i : Int)) = x := ⟨_, rfl⟩
    obtain ⟨y, hy⟩ : ∃ y, digV (bt s ((i + 1 : Nat) : Int)) = y := ⟨_, rfl⟩
    rw [hx] at d0 r0 ih
    rw [hy] at d1 r1 ih
    rw [unhexL, hx, hy]
    refine Ev.step (fun k => by rw [wireglassref01_Unhex.l0, if_pos (by omega), if_pos (by omega), e1, e2]) (Ev.bind r0 ?_)
    refine Ev.if_pos (c := 0 ≤ ((i + 1 : Nat) : Int)) (by omega) ?_
    refine Ev.if_pos (c := ((i + 1 : Nat) : Int) < (s.size : Int)) (by omega) ?_
    refine Ev.bind r1 ?_
    by_cases c0 : x < 0
    · rw [if_pos c0, if_pos c0]
      exact Ev.if_pos (by omega) (Ev.now _)
    rw [if_neg c0, if_neg c0]
    refine Ev.if_neg (by omega) ?_
    by_cases c1 : y < 0
    · rw [if_pos c1, if_pos c1]
      exact Ev.if_pos (by omega) (Ev.now _)
    rw [if_neg c1, if_neg c1]
    refine Ev.if_neg (by omega) (Ev.if_pos (by omega) (Ev.congr (fun k => ?_) ih))
    rw [w64 (n := 16 * x) (by omega) (by omega), w64 (n := 16 * x + y) (by omega) (by omega), Int.emod_eq_of_lt (by omega) (by omega)]
theorem unhexR_ev (s : ByteArray) (hs : s.size ≤ 1000000) : Ev (fun k => wireglassref01_Unhex.f k s) (unhexS s) := by
  unfold wireglassref01_Unhex.f unhexS
  by_cases c : s.size % 2 = 0
  · rw [if_pos c]
    exact Ev.if_pos (by omega) (unhexR_from s hs (s.size / 2) 0 [] (by omega) (Nat.le_refl _))
  · rw [if_neg c]
    exact Ev.if_neg (by omega) (Ev.now _)
end Go.Proofs.YtbdakgkjomanlaaDoor.Pure
