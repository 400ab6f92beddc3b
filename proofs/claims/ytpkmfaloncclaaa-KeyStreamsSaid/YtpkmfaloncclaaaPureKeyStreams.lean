/- The statement KeyStreams in plain Lean: that the program's stream is the reference's, for all keys, nonces and numbers. No condition beyond the kinds of the numbers. -/
import Derived.Test.YtpkmfaloncclaaaGx7
import Derived.Test.YtpkmfaloncclaaaK2
namespace Go.Proofs.Ytpkmfaloncclaaa.Pure
open Go.RowKit Go.Proofs.Ytpkmfaloncclaaa.G Go.Proofs.YtpkmfaloncclaaaW.PrintWords Go.Proofs.YtpkmfaloncclaaaW.PrintLast Hand
set_option linter.unusedVariables false

theorem KeyStreams : wireglasslaw21_KeyStreams.Pure := by
  intro l0 l1 a n _ _ hb0 _ _ hb1 ha hn
  obtain ⟨⟨k1, h1⟩, ⟨k2, h2⟩⟩ := stream_key (byteL_of hb0) (byteL_of hb1) ha hn
  exact ⟨max k1 k2, (streamA l0 a l1 n).1, (streamA l0 a l1 n).2, h1 _ (Nat.le_max_left _ _), h2 _ (Nat.le_max_right _ _)⟩
end Go.Proofs.Ytpkmfaloncclaaa.Pure
