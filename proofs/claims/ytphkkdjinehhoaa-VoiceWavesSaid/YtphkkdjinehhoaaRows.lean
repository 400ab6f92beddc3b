/-
  No cell of these rows narrows 'for every input' (looked for: loops, veiled, ifaces, maps, wideKeys, modest, calm, conditions, laid).
  DERIVED. THE GIVEN ROWS OF THIS SEAT. 4 by the template 'for every input the law returns true; each argument reads behind the call as it read before'; 0 by the template 'total and deterministic' (their statements: YtphkkdjinehhoaaTotals.lean).
  GIVEN WITH THE SEED: the statements are not yours to turn. If you find one false, say at which input.
  Laid BY PROGRAM, IN A SANDBOX (cutbox-rows.mjs): the forced cells as the released guide's own fill.sh prints them over the translation 376e2d3890c3b3ea… (all of the seat's roots in one cut). By AI agents, Wed Nov 11 2026. No macro, syntax, notation, axiom, sorry.
-/
import Derived.Test.YtphkkdjinehhoaaChecked
import GoSem.Claim
import GoSem.ClaimJoined
import GoSem.ClaimMapViews
import Derived.JoinedTies
import Derived.KernelRfl
namespace Go.Proofs.Ytphkkdjinehhoaa
/- THE CELL 'sum', in the pinned program and in every row, IS THE sha256 OF THE DUMP (.gsa) THAT YtphkkdjinehhoaaProg.lean LOADS. Nothing in Lean hashes anything: it is a label: what it is worth is what the hold of that sum in a sandbox is worth. -/
noncomputable def Try.pinned : Pinned := { name := "ytphkkdjinehhoaa", sum := "376e2d3890c3b3ea62ff7f5ca097ea1bc51364d518e7a9222b49294a59f0b728", checked := Try.checked }
namespace Rows
def none {H : Type} : Left H := { results := [], args := [] }

/-- 'wireglasslaw25.VoiceCodes': WHATEVER THE INPUT: true; the input reads as it did. -/
def voiceCodesSpec : ChangeSpec := { name := "voiceCodes", fn := fun _ => fun
  | [d] => { results := [.lit (.bool true)], args := [d] }
  | _ => none }
def voiceCodesRow : OpenClaim := { program := "ytphkkdjinehhoaa", sum := "376e2d3890c3b3ea62ff7f5ca097ea1bc51364d518e7a9222b49294a59f0b728", func := "wireglass/wireglasslaw25.VoiceCodes", spec := "voiceCodes", unfollowed := true, recurses := true, apart := false }
def VoiceCodesSaid : Prop := voiceCodesRow.holds Try.pinned (OpenSpec.ofChange voiceCodesSpec)

/-- ITS FALSE NEIGHBOUR: 'it returns false'. Refute it at one input. -/
def voiceCodesWrong : ChangeSpec := { name := "voiceCodes", fn := fun _ => fun
  | [d] => { results := [.lit (.bool false)], args := [d] }
  | _ => none }
def VoiceCodesWrongFalsely : Prop := voiceCodesRow.holds Try.pinned (OpenSpec.ofChange voiceCodesWrong)

/-- 'wireglasslaw25.VoiceFrames': WHATEVER THE INPUT: true; the input reads as it did. -/
def voiceFramesSpec : ChangeSpec := { name := "voiceFrames", fn := fun _ => fun
  | [d1, d2, d3] => { results := [.lit (.bool true)], args := [d1, d2, d3] }
  | _ => none }
def voiceFramesRow : OpenClaim := { program := "ytphkkdjinehhoaa", sum := "376e2d3890c3b3ea62ff7f5ca097ea1bc51364d518e7a9222b49294a59f0b728", func := "wireglass/wireglasslaw25.VoiceFrames", spec := "voiceFrames", unfollowed := true, recurses := true, apart := false }
def VoiceFramesSaid : Prop := voiceFramesRow.holds Try.pinned (OpenSpec.ofChange voiceFramesSpec)

/-- ITS FALSE NEIGHBOUR: 'it returns false'. Refute it at one input. -/
def voiceFramesWrong : ChangeSpec := { name := "voiceFrames", fn := fun _ => fun
  | [d1, d2, d3] => { results := [.lit (.bool false)], args := [d1, d2, d3] }
  | _ => none }
def VoiceFramesWrongFalsely : Prop := voiceFramesRow.holds Try.pinned (OpenSpec.ofChange voiceFramesWrong)

/-- 'wireglasslaw25.VoiceUnwaves': WHATEVER THE INPUT: true; the input reads as it did. -/
def voiceUnwavesSpec : ChangeSpec := { name := "voiceUnwaves", fn := fun _ => fun
  | [d] => { results := [.lit (.bool true)], args := [d] }
  | _ => none }
def voiceUnwavesRow : OpenClaim := { program := "ytphkkdjinehhoaa", sum := "376e2d3890c3b3ea62ff7f5ca097ea1bc51364d518e7a9222b49294a59f0b728", func := "wireglass/wireglasslaw25.VoiceUnwaves", spec := "voiceUnwaves", unfollowed := true, recurses := true, apart := false }
def VoiceUnwavesSaid : Prop := voiceUnwavesRow.holds Try.pinned (OpenSpec.ofChange voiceUnwavesSpec)

/-- ITS FALSE NEIGHBOUR: 'it returns false'. Refute it at one input. -/
def voiceUnwavesWrong : ChangeSpec := { name := "voiceUnwaves", fn := fun _ => fun
  | [d] => { results := [.lit (.bool false)], args := [d] }
  | _ => none }
def VoiceUnwavesWrongFalsely : Prop := voiceUnwavesRow.holds Try.pinned (OpenSpec.ofChange voiceUnwavesWrong)

/-- 'wireglasslaw25.VoiceWaves': WHATEVER THE INPUT: true; the input reads as it did. -/
def voiceWavesSpec : ChangeSpec := { name := "voiceWaves", fn := fun _ => fun
  | [d1, d2] => { results := [.lit (.bool true)], args := [d1, d2] }
  | _ => none }
def voiceWavesRow : OpenClaim := { program := "ytphkkdjinehhoaa", sum := "376e2d3890c3b3ea62ff7f5ca097ea1bc51364d518e7a9222b49294a59f0b728", func := "wireglass/wireglasslaw25.VoiceWaves", spec := "voiceWaves", unfollowed := true, recurses := true, apart := false }
def VoiceWavesSaid : Prop := voiceWavesRow.holds Try.pinned (OpenSpec.ofChange voiceWavesSpec)

/-- ITS FALSE NEIGHBOUR: 'it returns false'. Refute it at one input. -/
def voiceWavesWrong : ChangeSpec := { name := "voiceWaves", fn := fun _ => fun
  | [d1, d2] => { results := [.lit (.bool false)], args := [d1, d2] }
  | _ => none }
def VoiceWavesWrongFalsely : Prop := voiceWavesRow.holds Try.pinned (OpenSpec.ofChange voiceWavesWrong)

/- THE SECOND FORM. 'bulk': how many values and letters a reading holds, each counted each time it is reached (what is shared counts as often as it is met; a slice's spare places count too). A statement '..UptoSaid' is the law's where the arguments, and the package variables that the reading takes, are together of bulk at most 1048576: NARROWER than '..Said'. Prove '..Said' where nothing that the law and all that it calls make is longer than what came in: it says more and counts as full. Else prove '..UptoSaid'. A law counts once. -/
mutual
def uptoBulk {H : Type} : DataW H → Nat
  | .lit (.string bytes) => bytes.length + 1
  | .lit _ => 1
  | .nil => 1
  | .ptr d => uptoBulk d + 1
  | .slice elems spare => uptoBulkAll elems + uptoBulkAll spare + 1
  | .agg parts => uptoBulkAll parts + 1
  | .iface _ d => uptoBulk d + 1
  | .map entries => uptoBulkEntries entries + 1
  | .held _ => 1
def uptoBulkAll {H : Type} : List (DataW H) → Nat
  | [] => 0
  | d :: r => uptoBulk d + uptoBulkAll r
def uptoBulkEntries {H : Type} : List (Lit × DataW H) → Nat
  | [] => 0
  | x :: r => uptoBulkEntry x + uptoBulkEntries r
def uptoBulkEntry {H : Type} : Lit × DataW H → Nat
  | (.string bytes, d) => bytes.length + uptoBulk d + 1
  | (_, d) => uptoBulk d + 1
 end
def uptoSmall : (H : Type) → List (DataW H) → Bool := fun _ ds => decide (uptoBulkAll ds ≤ 1048576)
def OpenSpec.upto (s : _root_.Go.ChangeSpec) : _root_.Go.OpenSpec := { _root_.Go.OpenSpec.ofChange s with cond := some uptoSmall }

/-- 'wireglasslaw25.VoiceCodes', WHERE WHAT IT READS IS OF BULK AT MOST 1048576: true; the input reads as it did. -/
def voiceCodesUptoRow : OpenClaim := { program := "ytphkkdjinehhoaa", sum := "376e2d3890c3b3ea62ff7f5ca097ea1bc51364d518e7a9222b49294a59f0b728", func := "wireglass/wireglasslaw25.VoiceCodes", spec := "voiceCodes", unfollowed := true, recurses := true, apart := false, narrowed := true }
def VoiceCodesUptoSaid : Prop := voiceCodesUptoRow.holds Try.pinned (OpenSpec.upto voiceCodesSpec)

/-- 'wireglasslaw25.VoiceFrames', WHERE WHAT IT READS IS OF BULK AT MOST 1048576: true; the input reads as it did. -/
def voiceFramesUptoRow : OpenClaim := { program := "ytphkkdjinehhoaa", sum := "376e2d3890c3b3ea62ff7f5ca097ea1bc51364d518e7a9222b49294a59f0b728", func := "wireglass/wireglasslaw25.VoiceFrames", spec := "voiceFrames", unfollowed := true, recurses := true, apart := false, narrowed := true }
def VoiceFramesUptoSaid : Prop := voiceFramesUptoRow.holds Try.pinned (OpenSpec.upto voiceFramesSpec)

/-- 'wireglasslaw25.VoiceUnwaves', WHERE WHAT IT READS IS OF BULK AT MOST 1048576: true; the input reads as it did. -/
def voiceUnwavesUptoRow : OpenClaim := { program := "ytphkkdjinehhoaa", sum := "376e2d3890c3b3ea62ff7f5ca097ea1bc51364d518e7a9222b49294a59f0b728", func := "wireglass/wireglasslaw25.VoiceUnwaves", spec := "voiceUnwaves", unfollowed := true, recurses := true, apart := false, narrowed := true }
def VoiceUnwavesUptoSaid : Prop := voiceUnwavesUptoRow.holds Try.pinned (OpenSpec.upto voiceUnwavesSpec)

/-- 'wireglasslaw25.VoiceWaves', WHERE WHAT IT READS IS OF BULK AT MOST 1048576: true; the input reads as it did. -/
def voiceWavesUptoRow : OpenClaim := { program := "ytphkkdjinehhoaa", sum := "376e2d3890c3b3ea62ff7f5ca097ea1bc51364d518e7a9222b49294a59f0b728", func := "wireglass/wireglasslaw25.VoiceWaves", spec := "voiceWaves", unfollowed := true, recurses := true, apart := false, narrowed := true }
def VoiceWavesUptoSaid : Prop := voiceWavesUptoRow.holds Try.pinned (OpenSpec.upto voiceWavesSpec)

end Rows
end Go.Proofs.Ytphkkdjinehhoaa
