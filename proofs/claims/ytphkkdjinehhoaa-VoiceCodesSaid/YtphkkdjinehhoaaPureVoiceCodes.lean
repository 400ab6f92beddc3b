/- The statement VoiceCodes in plain Lean: the walk over the two coders side by side has shown that they never differ, for all numbers. No condition. -/
import Derived.Test.YtphkkdjinehhoaaGx4
namespace Go.Proofs.Ytphkkdjinehhoaa.Pure
open Go.RowKit Go.Proofs.Ytphkkdjinehhoaa.G

theorem VoiceCodes : wireglasslaw25_VoiceCodes.Pure := fun _ _ _ _ => rfl
end Go.Proofs.Ytphkkdjinehhoaa.Pure
