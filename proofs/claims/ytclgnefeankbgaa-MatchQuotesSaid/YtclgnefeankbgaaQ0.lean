/- A class of one byte has just that byte. No program in sight. Conditions: as each theorem says. -/
import Derived.Test.YtclgnefeankbgaaM5
namespace Go.Proofs.Ytclgnefeankbgaa.M
open Go Go.RowKit
theorem only_all : ∀ n m : Fin 256, hasC (onlyC ((n.val : Nat) : Int)) ((m.val : Nat) : Int) = decide (n = m) := by decide +kernel
end Go.Proofs.Ytclgnefeankbgaa.M
