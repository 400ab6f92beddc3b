/- A hexadecimal digit's number, in plain Lean: both sides tell the same. Conditions: the number is a byte. -/
import Derived.Test.YtbdakgkjomanlaaDoorD1
import Derived.Test.YtbdakgkjomanlaaDoorDx4
import Derived.Test.YtbdakgkjomanlaaDoorDx5
namespace Go.Proofs.YtbdakgkjomanlaaDoor.Pure
open Go.RowKit Go.Proofs.YtbdakgkjomanlaaDoor.D Go.Proofs.YtbdakgkjomanlaaDoorW.PrintWords Go.Proofs.YtbdakgkjomanlaaDoorW.PrintLast Go.Proofs.YtbdakgkjomanlaaDoorW.PrintMore Hand
set_option linter.unusedVariables false
/-- A digit's number; -1 for none. -/
def digV (c : Int) : Int := if 48 ≤ c ∧ c ≤ 57 then c - 48 else if 97 ≤ c ∧ c ≤ 102 then c - 87 else if 65 ≤ c ∧ c ≤ 70 then c - 55 else -1
theorem digV_bd (c : Int) : -1 ≤ digV c ∧ digV c ≤ 15 := by
  unfold digV
  repeat' split
  all_goals omega
theorem digitB {c : Int} (h0 : 0 ≤ c) (h1 : c ≤ 255) : bits_digit.f c = some (digV c) := by
  obtain ⟨n, rfl⟩ := Int.eq_ofNat_of_zero_le h0
  have hn : n < 256 := by omega
  have : ∀ m : Fin 256, bits_digit.f ((m.val : Nat) : Int) = some (digV ((m.val : Nat) : Int)) := by decide +kernel
  exact this ⟨n, hn⟩
theorem digitR {c : Int} (h0 : 0 ≤ c) (h1 : c ≤ 255) : Ev (fun k => wireglassref01_digit.f k c) (if digV c < 0 then 16 else digV c) := by
  obtain ⟨n, rfl⟩ := Int.eq_ofNat_of_zero_le h0
  have hn : n < 256 := by omega
  have : ∀ m : Fin 256, wireglassref01_digit.f 20 ((m.val : Nat) : Int) = some (if digV ((m.val : Nat) : Int) < 0 then 16 else digV ((m.val : Nat) : Int)) := by decide +kernel
  exact Ev.of (fun k => wireglassref01_digit.mono _ k) (k := 20) (this ⟨n, hn⟩)
end Go.Proofs.YtbdakgkjomanlaaDoor.Pure
