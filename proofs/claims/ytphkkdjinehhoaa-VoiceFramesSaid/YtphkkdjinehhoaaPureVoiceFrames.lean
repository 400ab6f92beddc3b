/- The statement VoiceFrames in plain Lean: that the program's frame of samples, and the samples of a frame, are the reference's, for all samples, states and bytes. No condition beyond the kinds of the numbers. -/
import Derived.Test.YtphkkdjinehhoaaGx5
import Derived.Test.YtphkkdjinehhoaaV1
namespace Go.Proofs.Ytphkkdjinehhoaa.Pure
open Go.RowKit Go.Proofs.Ytphkkdjinehhoaa.G Go.Proofs.YtphkkdjinehhoaaW.PrintWords Go.Proofs.YtphkkdjinehhoaaW.PrintLast Hand
set_option linter.unusedVariables false

theorem VoiceFrames : wireglasslaw25_VoiceFrames.Pure := by
  intro l p k b _ _ _ _ _ _ _ hb
  obtain ⟨r, e1, e2⟩ := frame_ev l p k
  obtain ⟨u, hu1, hu2, hul⟩ := unframe_some hb
  refine Ev.rounds (r := true) ?_
  unfold wireglasslaw25_VoiceFrames.f
  by_cases c : wrap64 ((l.length : Int) + (b.length : Int)) > 40000
  · exact Ev.if_pos c (Ev.bind known_ev (Ev.now _))
  · refine Ev.if_neg c (Ev.bind e1 (Ev.bind e2 ?_))
    rw [hu1, hu2]
    simp only [Option.bind_some, if_true]
    exact Ev.bind (same_ev u.1 hul) (Ev.if_pos rfl (Ev.bind known_ev (Ev.now _)))
end Go.Proofs.Ytphkkdjinehhoaa.Pure
