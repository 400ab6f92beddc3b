/- The statement VoiceUnwaves in plain Lean: that the program reads out of bytes the samples and the rate that the reference reads, for all bytes. No condition beyond the kinds of the numbers. -/
import Derived.Test.YtphkkdjinehhoaaGx7
import Derived.Test.YtphkkdjinehhoaaV3
namespace Go.Proofs.Ytphkkdjinehhoaa.Pure
open Go.RowKit Go.Proofs.Ytphkkdjinehhoaa.G Go.Proofs.YtphkkdjinehhoaaW.PrintWords Go.Proofs.YtphkkdjinehhoaaW.PrintLast Hand
set_option linter.unusedVariables false

theorem VoiceUnwaves : wireglasslaw25_VoiceUnwaves.Pure := by
  intro b _ _ hb
  obtain ⟨r, e1, e2, hl⟩ := unwaves b (bytes_of_wf hb)
  refine Ev.rounds (r := true) ?_
  unfold wireglasslaw25_VoiceUnwaves.f
  by_cases c : (b.length : Int) > 400000
  · exact Ev.if_pos c (Ev.bind known2_ev (Ev.now _))
  · exact Ev.if_neg c (Ev.bind e1 (Ev.bind e2 (Ev.bind (same2_ev r.1 hl) (Ev.if_pos rfl (Ev.if_pos rfl (Ev.if_pos rfl (Ev.bind known2_ev (Ev.now _))))))))
end Go.Proofs.Ytphkkdjinehhoaa.Pure
