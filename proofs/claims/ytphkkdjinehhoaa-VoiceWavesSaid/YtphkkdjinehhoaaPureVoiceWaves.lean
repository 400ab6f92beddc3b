/- The statement VoiceWaves in plain Lean: that the program's file of samples and its levels are the reference's, and that the file is read as it was, for all samples and rates. No condition beyond the kinds of the numbers. -/
import Derived.Test.YtphkkdjinehhoaaGx8
import Derived.Test.YtphkkdjinehhoaaV3
namespace Go.Proofs.Ytphkkdjinehhoaa.Pure
open Go.RowKit Go.Proofs.Ytphkkdjinehhoaa.G Go.Proofs.YtphkkdjinehhoaaW.PrintWords Go.Proofs.YtphkkdjinehhoaaW.PrintLast Hand
set_option linter.unusedVariables false

theorem VoiceWaves : wireglasslaw25_VoiceWaves.Pure := by
  intro l r hm _ _ _
  have hm' : l.length ≤ 9223372036854775807 := by simpa [maxLen] using hm
  refine Ev.rounds (r := true) ?_
  unfold wireglasslaw25_VoiceWaves.f
  by_cases c : (l.length : Int) > 200000
  · exact Ev.if_pos c (Ev.bind known2_ev (Ev.now _))
  refine Ev.if_neg c ?_
  obtain ⟨v, e1, e2⟩ := levels l hm'
  unfold wireglassref25_Wave.f
  by_cases h : wOk l r = true
  · by_cases hl : l.length ≤ 80000
    · have hw : voice_Wave.f l r = some (wFull l r, 0) := by unfold voice_Wave.f; rw [if_pos h, if_pos hl]
      rw [hw]
      simp only [Option.bind_some, if_true]
      refine Ev.bind e1 (Ev.bind e2 ?_)
      simp only [if_true, bne_self_eq_false]
      refine Ev.step (f := fun k => (voice_Unwave.f k (wFull l r)).bind fun bt => (if bt.2.2 = 0 then (if bt.2.1 = r then ((wireglassref02_SameInts.f k bt.1 l).bind fun t270 => (if t270 = true then ((wireglasslaw25_known.f k).bind fun t271 => (some t271)) else (some false))) else (some false)) else (some false))) (fun k => by rw [wireglasslaw25_VoiceWaves.j0, if_neg (by decide), if_pos rfl]) ?_
      exact Ev.bind (unwave_written l r h hl) (Ev.if_pos rfl (Ev.if_pos rfl (Ev.bind (same2_ev l hm') (Ev.if_pos rfl (Ev.bind known2_ev (Ev.now _))))))
    · have hw : voice_Wave.f l r = some ([], 3) := by unfold voice_Wave.f; rw [if_pos h, if_neg hl]
      rw [hw]
      simp only [Option.bind_some, if_true]
      refine Ev.bind e1 (Ev.bind e2 ?_)
      simp only [if_true, bne_self_eq_false]
      exact Ev.step (f := fun k => (wireglasslaw25_known.f k).bind fun t => some t) (fun k => by rw [wireglasslaw25_VoiceWaves.j0, if_neg (by decide), if_neg (by decide)]) (Ev.bind known2_ev (Ev.now _))
  · have hw : voice_Wave.f l r = some ([], 1) := by unfold voice_Wave.f; rw [if_neg h]
    rw [hw]
    simp only [Option.bind_some, if_true]
    refine Ev.bind e1 (Ev.bind e2 ?_)
    simp only [if_true, bne_self_eq_false]
    exact Ev.step (f := fun k => (wireglasslaw25_known.f k).bind fun t => some t) (fun k => by rw [wireglasslaw25_VoiceWaves.j0, if_neg (by decide), if_neg (by decide)]) (Ev.bind known2_ev (Ev.now _))
end Go.Proofs.Ytphkkdjinehhoaa.Pure
