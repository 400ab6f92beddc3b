/-
  No cell of these rows narrows 'for every input' (looked for: loops, veiled, ifaces, maps, wideKeys, modest, calm, conditions, laid).
  DERIVED. THE GIVEN ROWS OF THIS SEAT. 6 by the template 'for every input the law returns true; each argument reads behind the call as it read before'; 0 by the template 'total and deterministic' (their statements: YtpkmfaloncclaaaTotals.lean).
  GIVEN WITH THE SEED: the statements are not yours to turn. If you find one false, say at which input.
  Laid BY PROGRAM, IN A SANDBOX (cutbox-rows.mjs): the forced cells as the released guide's own fill.sh prints them over the translation 1ae4c33dfc628310… (all of the seat's roots in one cut). By AI agents, Wed Nov 11 2026. No macro, syntax, notation, axiom, sorry.
-/
import Derived.Test.YtpkmfaloncclaaaChecked
import GoSem.Claim
import GoSem.ClaimJoined
import GoSem.ClaimMapViews
import Derived.JoinedTies
import Derived.KernelRfl
namespace Go.Proofs.Ytpkmfaloncclaaa
/- THE CELL 'sum', in the pinned program and in every row, IS THE sha256 OF THE DUMP (.gsa) THAT YtpkmfaloncclaaaProg.lean LOADS. Nothing in Lean hashes anything: it is a label: what it is worth is what the hold of that sum in a sandbox is worth. -/
noncomputable def Try.pinned : Pinned := { name := "ytpkmfaloncclaaa", sum := "1ae4c33dfc628310a513af52ee502b42ff29c80c5f46f944ab80e3fdc97642f8", checked := Try.checked }
namespace Rows
def none {H : Type} : Left H := { results := [], args := [] }

/-- 'wireglasslaw21.KeyStreams': WHATEVER THE INPUT: true; the input reads as it did. -/
def keyStreamsSpec : ChangeSpec := { name := "keyStreams", fn := fun _ => fun
  | [d1, d2, d3] => { results := [.lit (.bool true)], args := [d1, d2, d3] }
  | _ => none }
def keyStreamsRow : OpenClaim := { program := "ytpkmfaloncclaaa", sum := "1ae4c33dfc628310a513af52ee502b42ff29c80c5f46f944ab80e3fdc97642f8", func := "wireglass/wireglasslaw21.KeyStreams", spec := "keyStreams", apart := false }
def KeyStreamsSaid : Prop := keyStreamsRow.holds Try.pinned (OpenSpec.ofChange keyStreamsSpec)

/-- ITS FALSE NEIGHBOUR: 'it returns false'. Refute it at one input. -/
def keyStreamsWrong : ChangeSpec := { name := "keyStreams", fn := fun _ => fun
  | [d1, d2, d3] => { results := [.lit (.bool false)], args := [d1, d2, d3] }
  | _ => none }
def KeyStreamsWrongFalsely : Prop := keyStreamsRow.holds Try.pinned (OpenSpec.ofChange keyStreamsWrong)

/-- 'wireglasslaw21.KeyTags': WHATEVER THE INPUT: true; the input reads as it did. -/
def keyTagsSpec : ChangeSpec := { name := "keyTags", fn := fun _ => fun
  | [d1, d2] => { results := [.lit (.bool true)], args := [d1, d2] }
  | _ => none }
def keyTagsRow : OpenClaim := { program := "ytpkmfaloncclaaa", sum := "1ae4c33dfc628310a513af52ee502b42ff29c80c5f46f944ab80e3fdc97642f8", func := "wireglass/wireglasslaw21.KeyTags", spec := "keyTags", apart := false }
def KeyTagsSaid : Prop := keyTagsRow.holds Try.pinned (OpenSpec.ofChange keyTagsSpec)

/-- ITS FALSE NEIGHBOUR: 'it returns false'. Refute it at one input. -/
def keyTagsWrong : ChangeSpec := { name := "keyTags", fn := fun _ => fun
  | [d1, d2] => { results := [.lit (.bool false)], args := [d1, d2] }
  | _ => none }
def KeyTagsWrongFalsely : Prop := keyTagsRow.holds Try.pinned (OpenSpec.ofChange keyTagsWrong)

/-- 'wireglasslaw21.KeyHands': WHATEVER THE INPUT: true; the input reads as it did. -/
def keyHandsSpec : ChangeSpec := { name := "keyHands", fn := fun _ => fun
  | [d1, d2, d3] => { results := [.lit (.bool true)], args := [d1, d2, d3] }
  | _ => none }
def keyHandsRow : OpenClaim := { program := "ytpkmfaloncclaaa", sum := "1ae4c33dfc628310a513af52ee502b42ff29c80c5f46f944ab80e3fdc97642f8", func := "wireglass/wireglasslaw21.KeyHands", spec := "keyHands", inPlace := ["internal/bytealg.Compare"], apart := false }
def KeyHandsSaid : Prop := keyHandsRow.holds Try.pinned (OpenSpec.ofChange keyHandsSpec)

/-- ITS FALSE NEIGHBOUR: 'it returns false'. Refute it at one input. -/
def keyHandsWrong : ChangeSpec := { name := "keyHands", fn := fun _ => fun
  | [d1, d2, d3] => { results := [.lit (.bool false)], args := [d1, d2, d3] }
  | _ => none }
def KeyHandsWrongFalsely : Prop := keyHandsRow.holds Try.pinned (OpenSpec.ofChange keyHandsWrong)

/-- 'wireglasslaw21.KeyOrder': WHATEVER THE INPUT: true; the input reads as it did. -/
def keyOrderSpec : ChangeSpec := { name := "keyOrder", fn := fun _ => fun
  | [d1, d2, d3] => { results := [.lit (.bool true)], args := [d1, d2, d3] }
  | _ => none }
def keyOrderRow : OpenClaim := { program := "ytpkmfaloncclaaa", sum := "1ae4c33dfc628310a513af52ee502b42ff29c80c5f46f944ab80e3fdc97642f8", func := "wireglass/wireglasslaw21.KeyOrder", spec := "keyOrder", apart := false }
def KeyOrderSaid : Prop := keyOrderRow.holds Try.pinned (OpenSpec.ofChange keyOrderSpec)

/-- ITS FALSE NEIGHBOUR: 'it returns false'. Refute it at one input. -/
def keyOrderWrong : ChangeSpec := { name := "keyOrder", fn := fun _ => fun
  | [d1, d2, d3] => { results := [.lit (.bool false)], args := [d1, d2, d3] }
  | _ => none }
def KeyOrderWrongFalsely : Prop := keyOrderRow.holds Try.pinned (OpenSpec.ofChange keyOrderWrong)

/-- 'wireglasslaw21.KeyTries': WHATEVER THE INPUT: true; the input reads as it did. -/
def keyTriesSpec : ChangeSpec := { name := "keyTries", fn := fun _ => fun
  | [d1, d2, d3] => { results := [.lit (.bool true)], args := [d1, d2, d3] }
  | _ => none }
def keyTriesRow : OpenClaim := { program := "ytpkmfaloncclaaa", sum := "1ae4c33dfc628310a513af52ee502b42ff29c80c5f46f944ab80e3fdc97642f8", func := "wireglass/wireglasslaw21.KeyTries", spec := "keyTries", apart := false }
def KeyTriesSaid : Prop := keyTriesRow.holds Try.pinned (OpenSpec.ofChange keyTriesSpec)

/-- ITS FALSE NEIGHBOUR: 'it returns false'. Refute it at one input. -/
def keyTriesWrong : ChangeSpec := { name := "keyTries", fn := fun _ => fun
  | [d1, d2, d3] => { results := [.lit (.bool false)], args := [d1, d2, d3] }
  | _ => none }
def KeyTriesWrongFalsely : Prop := keyTriesRow.holds Try.pinned (OpenSpec.ofChange keyTriesWrong)

/-- 'wireglasslaw21.KeyRecords': WHATEVER THE INPUT: true; the input reads as it did. -/
def keyRecordsSpec : ChangeSpec := { name := "keyRecords", fn := fun _ => fun
  | [d1, d2] => { results := [.lit (.bool true)], args := [d1, d2] }
  | _ => none }
def keyRecordsRow : OpenClaim := { program := "ytpkmfaloncclaaa", sum := "1ae4c33dfc628310a513af52ee502b42ff29c80c5f46f944ab80e3fdc97642f8", func := "wireglass/wireglasslaw21.KeyRecords", spec := "keyRecords", apart := false }
def KeyRecordsSaid : Prop := keyRecordsRow.holds Try.pinned (OpenSpec.ofChange keyRecordsSpec)

/-- ITS FALSE NEIGHBOUR: 'it returns false'. Refute it at one input. -/
def keyRecordsWrong : ChangeSpec := { name := "keyRecords", fn := fun _ => fun
  | [d1, d2] => { results := [.lit (.bool false)], args := [d1, d2] }
  | _ => none }
def KeyRecordsWrongFalsely : Prop := keyRecordsRow.holds Try.pinned (OpenSpec.ofChange keyRecordsWrong)

/- THE SECOND FORM. 'bulk': how many values and letters a reading holds, each counted each time it is reached (what is shared counts as often as it is met; a slice's spare places count too). A statement '..UptoSaid' is the law's where the arguments, and the package variables that the reading takes, are together of bulk at most 1048576: NARROWER than '..Said'. Prove '..Said' where nothing that the law and all that it calls make is longer than what came in: it says more and counts as full. Else prove '..UptoSaid'. A law counts once. -/
mutual
def uptoBulk {H : Type} : DataW H → Nat
  | .lit (.string bytes) => bytes.length + 1
  | .lit _ => 1
  | .nil => 1
  | .ptr d => uptoBulk d + 1
  | .slice elems spare => uptoBulkAll elems + uptoBulkAll spare + 1
  | .agg parts => uptoBulkAll parts + 1
  | .iface _ d => uptoBulk d + 1
  | .map entries => uptoBulkEntries entries + 1
  | .held _ => 1
def uptoBulkAll {H : Type} : List (DataW H) → Nat
  | [] => 0
  | d :: r => uptoBulk d + uptoBulkAll r
def uptoBulkEntries {H : Type} : List (Lit × DataW H) → Nat
  | [] => 0
  | x :: r => uptoBulkEntry x + uptoBulkEntries r
def uptoBulkEntry {H : Type} : Lit × DataW H → Nat
  | (.string bytes, d) => bytes.length + uptoBulk d + 1
  | (_, d) => uptoBulk d + 1
 end
def uptoSmall : (H : Type) → List (DataW H) → Bool := fun _ ds => decide (uptoBulkAll ds ≤ 1048576)
def OpenSpec.upto (s : _root_.Go.ChangeSpec) : _root_.Go.OpenSpec := { _root_.Go.OpenSpec.ofChange s with cond := some uptoSmall }

/-- 'wireglasslaw21.KeyStreams', WHERE WHAT IT READS IS OF BULK AT MOST 1048576: true; the input reads as it did. -/
def keyStreamsUptoRow : OpenClaim := { program := "ytpkmfaloncclaaa", sum := "1ae4c33dfc628310a513af52ee502b42ff29c80c5f46f944ab80e3fdc97642f8", func := "wireglass/wireglasslaw21.KeyStreams", spec := "keyStreams", apart := false, narrowed := true }
def KeyStreamsUptoSaid : Prop := keyStreamsUptoRow.holds Try.pinned (OpenSpec.upto keyStreamsSpec)

/-- 'wireglasslaw21.KeyTags', WHERE WHAT IT READS IS OF BULK AT MOST 1048576: true; the input reads as it did. -/
def keyTagsUptoRow : OpenClaim := { program := "ytpkmfaloncclaaa", sum := "1ae4c33dfc628310a513af52ee502b42ff29c80c5f46f944ab80e3fdc97642f8", func := "wireglass/wireglasslaw21.KeyTags", spec := "keyTags", apart := false, narrowed := true }
def KeyTagsUptoSaid : Prop := keyTagsUptoRow.holds Try.pinned (OpenSpec.upto keyTagsSpec)

/-- 'wireglasslaw21.KeyHands', WHERE WHAT IT READS IS OF BULK AT MOST 1048576: true; the input reads as it did. -/
def keyHandsUptoRow : OpenClaim := { program := "ytpkmfaloncclaaa", sum := "1ae4c33dfc628310a513af52ee502b42ff29c80c5f46f944ab80e3fdc97642f8", func := "wireglass/wireglasslaw21.KeyHands", spec := "keyHands", inPlace := ["internal/bytealg.Compare"], apart := false, narrowed := true }
def KeyHandsUptoSaid : Prop := keyHandsUptoRow.holds Try.pinned (OpenSpec.upto keyHandsSpec)

/-- 'wireglasslaw21.KeyOrder', WHERE WHAT IT READS IS OF BULK AT MOST 1048576: true; the input reads as it did. -/
def keyOrderUptoRow : OpenClaim := { program := "ytpkmfaloncclaaa", sum := "1ae4c33dfc628310a513af52ee502b42ff29c80c5f46f944ab80e3fdc97642f8", func := "wireglass/wireglasslaw21.KeyOrder", spec := "keyOrder", apart := false, narrowed := true }
def KeyOrderUptoSaid : Prop := keyOrderUptoRow.holds Try.pinned (OpenSpec.upto keyOrderSpec)

/-- 'wireglasslaw21.KeyTries', WHERE WHAT IT READS IS OF BULK AT MOST 1048576: true; the input reads as it did. -/
def keyTriesUptoRow : OpenClaim := { program := "ytpkmfaloncclaaa", sum := "1ae4c33dfc628310a513af52ee502b42ff29c80c5f46f944ab80e3fdc97642f8", func := "wireglass/wireglasslaw21.KeyTries", spec := "keyTries", apart := false, narrowed := true }
def KeyTriesUptoSaid : Prop := keyTriesUptoRow.holds Try.pinned (OpenSpec.upto keyTriesSpec)

/-- 'wireglasslaw21.KeyRecords', WHERE WHAT IT READS IS OF BULK AT MOST 1048576: true; the input reads as it did. -/
def keyRecordsUptoRow : OpenClaim := { program := "ytpkmfaloncclaaa", sum := "1ae4c33dfc628310a513af52ee502b42ff29c80c5f46f944ab80e3fdc97642f8", func := "wireglass/wireglasslaw21.KeyRecords", spec := "keyRecords", apart := false, narrowed := true }
def KeyRecordsUptoSaid : Prop := keyRecordsUptoRow.holds Try.pinned (OpenSpec.upto keyRecordsSpec)

end Rows
end Go.Proofs.Ytpkmfaloncclaaa
