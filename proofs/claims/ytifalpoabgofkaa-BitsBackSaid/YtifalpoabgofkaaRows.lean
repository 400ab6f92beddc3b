/-
  No cell of these rows narrows 'for every input' (looked for: loops, veiled, ifaces, maps, wideKeys, modest, calm, conditions, laid).
  DERIVED. THE GIVEN ROWS OF THIS SEAT. 9 by the template 'for every input the law returns true; each argument reads behind the call as it read before'; 0 by the template 'total and deterministic' (their statements: YtifalpoabgofkaaTotals.lean).
  GIVEN WITH THE SEED: the statements are not yours to turn. If you find one false, say at which input.
  Laid BY PROGRAM, IN A SANDBOX (cutbox-rows.mjs): the forced cells as the released guide's own fill.sh prints them over the translation ee529f09fda64bb5… (all of the seat's roots in one cut). By AI agents, Wed Nov 11 2026. No macro, syntax, notation, axiom, sorry.
-/
import Derived.Test.YtifalpoabgofkaaChecked
import GoSem.Claim
import GoSem.ClaimJoined
import GoSem.ClaimMapViews
import Derived.JoinedTies
import Derived.KernelRfl
namespace Go.Proofs.Ytifalpoabgofkaa
/- THE CELL 'sum', in the pinned program and in every row, IS THE sha256 OF THE DUMP (.gsa) THAT YtifalpoabgofkaaProg.lean LOADS. Nothing in Lean hashes anything: it is a label: what it is worth is what the hold of that sum in a sandbox is worth. -/
noncomputable def Try.pinned : Pinned := { name := "ytifalpoabgofkaa", sum := "ee529f09fda64bb5fd29882a7a8b04edb65c6b10aa05fffe6b5e73038737a062", checked := Try.checked }
namespace Rows
def none {H : Type} : Left H := { results := [], args := [] }

/-- 'wireglasslaw01.BitsGets': WHATEVER THE INPUT: true; the input reads as it did. -/
def bitsGetsSpec : ChangeSpec := { name := "bitsGets", fn := fun _ => fun
  | [d1, d2] => { results := [.lit (.bool true)], args := [d1, d2] }
  | _ => none }
def bitsGetsRow : OpenClaim := { program := "ytifalpoabgofkaa", sum := "ee529f09fda64bb5fd29882a7a8b04edb65c6b10aa05fffe6b5e73038737a062", func := "wireglass/wireglasslaw01.BitsGets", spec := "bitsGets", unfollowed := true, recurses := true, apart := false }
def BitsGetsSaid : Prop := bitsGetsRow.holds Try.pinned (OpenSpec.ofChange bitsGetsSpec)

/-- ITS FALSE NEIGHBOUR: 'it returns false'. Refute it at one input. -/
def bitsGetsWrong : ChangeSpec := { name := "bitsGets", fn := fun _ => fun
  | [d1, d2] => { results := [.lit (.bool false)], args := [d1, d2] }
  | _ => none }
def BitsGetsWrongFalsely : Prop := bitsGetsRow.holds Try.pinned (OpenSpec.ofChange bitsGetsWrong)

/-- 'wireglasslaw01.BitsMends': WHATEVER THE INPUT: true; the input reads as it did. -/
def bitsMendsSpec : ChangeSpec := { name := "bitsMends", fn := fun _ => fun
  | [d1, d2, d3] => { results := [.lit (.bool true)], args := [d1, d2, d3] }
  | _ => none }
def bitsMendsRow : OpenClaim := { program := "ytifalpoabgofkaa", sum := "ee529f09fda64bb5fd29882a7a8b04edb65c6b10aa05fffe6b5e73038737a062", func := "wireglass/wireglasslaw01.BitsMends", spec := "bitsMends", unfollowed := true, recurses := true, apart := false }
def BitsMendsSaid : Prop := bitsMendsRow.holds Try.pinned (OpenSpec.ofChange bitsMendsSpec)

/-- ITS FALSE NEIGHBOUR: 'it returns false'. Refute it at one input. -/
def bitsMendsWrong : ChangeSpec := { name := "bitsMends", fn := fun _ => fun
  | [d1, d2, d3] => { results := [.lit (.bool false)], args := [d1, d2, d3] }
  | _ => none }
def BitsMendsWrongFalsely : Prop := bitsMendsRow.holds Try.pinned (OpenSpec.ofChange bitsMendsWrong)

/-- 'wireglasslaw01.BitsMended': WHATEVER THE INPUT: true; the input reads as it did. -/
def bitsMendedSpec : ChangeSpec := { name := "bitsMended", fn := fun _ => fun
  | [d1, d2, d3] => { results := [.lit (.bool true)], args := [d1, d2, d3] }
  | _ => none }
def bitsMendedRow : OpenClaim := { program := "ytifalpoabgofkaa", sum := "ee529f09fda64bb5fd29882a7a8b04edb65c6b10aa05fffe6b5e73038737a062", func := "wireglass/wireglasslaw01.BitsMended", spec := "bitsMended", unfollowed := true, recurses := true, apart := false }
def BitsMendedSaid : Prop := bitsMendedRow.holds Try.pinned (OpenSpec.ofChange bitsMendedSpec)

/-- ITS FALSE NEIGHBOUR: 'it returns false'. Refute it at one input. -/
def bitsMendedWrong : ChangeSpec := { name := "bitsMended", fn := fun _ => fun
  | [d1, d2, d3] => { results := [.lit (.bool false)], args := [d1, d2, d3] }
  | _ => none }
def BitsMendedWrongFalsely : Prop := bitsMendedRow.holds Try.pinned (OpenSpec.ofChange bitsMendedWrong)

/-- 'wireglasslaw01.BitsChecks': WHATEVER THE INPUT: true; the input reads as it did. -/
def bitsChecksSpec : ChangeSpec := { name := "bitsChecks", fn := fun _ => fun
  | [d] => { results := [.lit (.bool true)], args := [d] }
  | _ => none }
def bitsChecksRow : OpenClaim := { program := "ytifalpoabgofkaa", sum := "ee529f09fda64bb5fd29882a7a8b04edb65c6b10aa05fffe6b5e73038737a062", func := "wireglass/wireglasslaw01.BitsChecks", spec := "bitsChecks", unfollowed := true, recurses := true, apart := false }
def BitsChecksSaid : Prop := bitsChecksRow.holds Try.pinned (OpenSpec.ofChange bitsChecksSpec)

/-- ITS FALSE NEIGHBOUR: 'it returns false'. Refute it at one input. -/
def bitsChecksWrong : ChangeSpec := { name := "bitsChecks", fn := fun _ => fun
  | [d] => { results := [.lit (.bool false)], args := [d] }
  | _ => none }
def BitsChecksWrongFalsely : Prop := bitsChecksRow.holds Try.pinned (OpenSpec.ofChange bitsChecksWrong)

/-- 'wireglasslaw01.BitsSigns': WHATEVER THE INPUT: true; the input reads as it did. -/
def bitsSignsSpec : ChangeSpec := { name := "bitsSigns", fn := fun _ => fun
  | [d1, d2] => { results := [.lit (.bool true)], args := [d1, d2] }
  | _ => none }
def bitsSignsRow : OpenClaim := { program := "ytifalpoabgofkaa", sum := "ee529f09fda64bb5fd29882a7a8b04edb65c6b10aa05fffe6b5e73038737a062", func := "wireglass/wireglasslaw01.BitsSigns", spec := "bitsSigns", unfollowed := true, recurses := true, apart := false }
def BitsSignsSaid : Prop := bitsSignsRow.holds Try.pinned (OpenSpec.ofChange bitsSignsSpec)

/-- ITS FALSE NEIGHBOUR: 'it returns false'. Refute it at one input. -/
def bitsSignsWrong : ChangeSpec := { name := "bitsSigns", fn := fun _ => fun
  | [d1, d2] => { results := [.lit (.bool false)], args := [d1, d2] }
  | _ => none }
def BitsSignsWrongFalsely : Prop := bitsSignsRow.holds Try.pinned (OpenSpec.ofChange bitsSignsWrong)

/-- 'wireglasslaw01.BitsBytes': WHATEVER THE INPUT: true; the input reads as it did. -/
def bitsBytesSpec : ChangeSpec := { name := "bitsBytes", fn := fun _ => fun
  | [d1, d2, d3] => { results := [.lit (.bool true)], args := [d1, d2, d3] }
  | _ => none }
def bitsBytesRow : OpenClaim := { program := "ytifalpoabgofkaa", sum := "ee529f09fda64bb5fd29882a7a8b04edb65c6b10aa05fffe6b5e73038737a062", func := "wireglass/wireglasslaw01.BitsBytes", spec := "bitsBytes", unfollowed := true, recurses := true, apart := false }
def BitsBytesSaid : Prop := bitsBytesRow.holds Try.pinned (OpenSpec.ofChange bitsBytesSpec)

/-- ITS FALSE NEIGHBOUR: 'it returns false'. Refute it at one input. -/
def bitsBytesWrong : ChangeSpec := { name := "bitsBytes", fn := fun _ => fun
  | [d1, d2, d3] => { results := [.lit (.bool false)], args := [d1, d2, d3] }
  | _ => none }
def BitsBytesWrongFalsely : Prop := bitsBytesRow.holds Try.pinned (OpenSpec.ofChange bitsBytesWrong)

/-- 'wireglasslaw01.BitsSevens': WHATEVER THE INPUT: true; the input reads as it did. -/
def bitsSevensSpec : ChangeSpec := { name := "bitsSevens", fn := fun _ => fun
  | [d1, d2] => { results := [.lit (.bool true)], args := [d1, d2] }
  | _ => none }
def bitsSevensRow : OpenClaim := { program := "ytifalpoabgofkaa", sum := "ee529f09fda64bb5fd29882a7a8b04edb65c6b10aa05fffe6b5e73038737a062", func := "wireglass/wireglasslaw01.BitsSevens", spec := "bitsSevens", unfollowed := true, recurses := true, apart := false }
def BitsSevensSaid : Prop := bitsSevensRow.holds Try.pinned (OpenSpec.ofChange bitsSevensSpec)

/-- ITS FALSE NEIGHBOUR: 'it returns false'. Refute it at one input. -/
def bitsSevensWrong : ChangeSpec := { name := "bitsSevens", fn := fun _ => fun
  | [d1, d2] => { results := [.lit (.bool false)], args := [d1, d2] }
  | _ => none }
def BitsSevensWrongFalsely : Prop := bitsSevensRow.holds Try.pinned (OpenSpec.ofChange bitsSevensWrong)

/-- 'wireglasslaw01.BitsPuts': WHATEVER THE INPUT: true; the input reads as it did. -/
def bitsPutsSpec : ChangeSpec := { name := "bitsPuts", fn := fun _ => fun
  | [d1, d2] => { results := [.lit (.bool true)], args := [d1, d2] }
  | _ => none }
def bitsPutsRow : OpenClaim := { program := "ytifalpoabgofkaa", sum := "ee529f09fda64bb5fd29882a7a8b04edb65c6b10aa05fffe6b5e73038737a062", func := "wireglass/wireglasslaw01.BitsPuts", spec := "bitsPuts", unfollowed := true, recurses := true, apart := false }
def BitsPutsSaid : Prop := bitsPutsRow.holds Try.pinned (OpenSpec.ofChange bitsPutsSpec)

/-- ITS FALSE NEIGHBOUR: 'it returns false'. Refute it at one input. -/
def bitsPutsWrong : ChangeSpec := { name := "bitsPuts", fn := fun _ => fun
  | [d1, d2] => { results := [.lit (.bool false)], args := [d1, d2] }
  | _ => none }
def BitsPutsWrongFalsely : Prop := bitsPutsRow.holds Try.pinned (OpenSpec.ofChange bitsPutsWrong)

/-- 'wireglasslaw01.BitsBack': WHATEVER THE INPUT: true; the input reads as it did. -/
def bitsBackSpec : ChangeSpec := { name := "bitsBack", fn := fun _ => fun
  | [d1, d2, d3] => { results := [.lit (.bool true)], args := [d1, d2, d3] }
  | _ => none }
def bitsBackRow : OpenClaim := { program := "ytifalpoabgofkaa", sum := "ee529f09fda64bb5fd29882a7a8b04edb65c6b10aa05fffe6b5e73038737a062", func := "wireglass/wireglasslaw01.BitsBack", spec := "bitsBack", unfollowed := true, recurses := true, apart := false }
def BitsBackSaid : Prop := bitsBackRow.holds Try.pinned (OpenSpec.ofChange bitsBackSpec)

/-- ITS FALSE NEIGHBOUR: 'it returns false'. Refute it at one input. -/
def bitsBackWrong : ChangeSpec := { name := "bitsBack", fn := fun _ => fun
  | [d1, d2, d3] => { results := [.lit (.bool false)], args := [d1, d2, d3] }
  | _ => none }
def BitsBackWrongFalsely : Prop := bitsBackRow.holds Try.pinned (OpenSpec.ofChange bitsBackWrong)

/- THE SECOND FORM. 'bulk': how many values and letters a reading holds, each counted each time it is reached (what is shared counts as often as it is met; a slice's spare places count too). A statement '..UptoSaid' is the law's where the arguments, and the package variables that the reading takes, are together of bulk at most 1048576: NARROWER than '..Said'. Prove '..Said' where nothing that the law and all that it calls make is longer than what came in: it says more and counts as full. Else prove '..UptoSaid'. A law counts once. -/
mutual
def uptoBulk {H : Type} : DataW H → Nat
  | .lit (.string bytes) => bytes.length + 1
  | .lit _ => 1
  | .nil => 1
  | .ptr d => uptoBulk d + 1
  | .slice elems spare => uptoBulkAll elems + uptoBulkAll spare + 1
  | .agg parts => uptoBulkAll parts + 1
  | .iface _ d => uptoBulk d + 1
  | .map entries => uptoBulkEntries entries + 1
  | .held _ => 1
def uptoBulkAll {H : Type} : List (DataW H) → Nat
  | [] => 0
  | d :: r => uptoBulk d + uptoBulkAll r
def uptoBulkEntries {H : Type} : List (Lit × DataW H) → Nat
  | [] => 0
  | x :: r => uptoBulkEntry x + uptoBulkEntries r
def uptoBulkEntry {H : Type} : Lit × DataW H → Nat
  | (.string bytes, d) => bytes.length + uptoBulk d + 1
  | (_, d) => uptoBulk d + 1
 end
def uptoSmall : (H : Type) → List (DataW H) → Bool := fun _ ds => decide (uptoBulkAll ds ≤ 1048576)
def OpenSpec.upto (s : _root_.Go.ChangeSpec) : _root_.Go.OpenSpec := { _root_.Go.OpenSpec.ofChange s with cond := some uptoSmall }

/-- 'wireglasslaw01.BitsGets', WHERE WHAT IT READS IS OF BULK AT MOST 1048576: true; the input reads as it did. -/
def bitsGetsUptoRow : OpenClaim := { program := "ytifalpoabgofkaa", sum := "ee529f09fda64bb5fd29882a7a8b04edb65c6b10aa05fffe6b5e73038737a062", func := "wireglass/wireglasslaw01.BitsGets", spec := "bitsGets", unfollowed := true, recurses := true, apart := false, narrowed := true }
def BitsGetsUptoSaid : Prop := bitsGetsUptoRow.holds Try.pinned (OpenSpec.upto bitsGetsSpec)

/-- 'wireglasslaw01.BitsMends', WHERE WHAT IT READS IS OF BULK AT MOST 1048576: true; the input reads as it did. -/
def bitsMendsUptoRow : OpenClaim := { program := "ytifalpoabgofkaa", sum := "ee529f09fda64bb5fd29882a7a8b04edb65c6b10aa05fffe6b5e73038737a062", func := "wireglass/wireglasslaw01.BitsMends", spec := "bitsMends", unfollowed := true, recurses := true, apart := false, narrowed := true }
def BitsMendsUptoSaid : Prop := bitsMendsUptoRow.holds Try.pinned (OpenSpec.upto bitsMendsSpec)

/-- 'wireglasslaw01.BitsMended', WHERE WHAT IT READS IS OF BULK AT MOST 1048576: true; the input reads as it did. -/
def bitsMendedUptoRow : OpenClaim := { program := "ytifalpoabgofkaa", sum := "ee529f09fda64bb5fd29882a7a8b04edb65c6b10aa05fffe6b5e73038737a062", func := "wireglass/wireglasslaw01.BitsMended", spec := "bitsMended", unfollowed := true, recurses := true, apart := false, narrowed := true }
def BitsMendedUptoSaid : Prop := bitsMendedUptoRow.holds Try.pinned (OpenSpec.upto bitsMendedSpec)

/-- 'wireglasslaw01.BitsChecks', WHERE WHAT IT READS IS OF BULK AT MOST 1048576: true; the input reads as it did. -/
def bitsChecksUptoRow : OpenClaim := { program := "ytifalpoabgofkaa", sum := "ee529f09fda64bb5fd29882a7a8b04edb65c6b10aa05fffe6b5e73038737a062", func := "wireglass/wireglasslaw01.BitsChecks", spec := "bitsChecks", unfollowed := true, recurses := true, apart := false, narrowed := true }
def BitsChecksUptoSaid : Prop := bitsChecksUptoRow.holds Try.pinned (OpenSpec.upto bitsChecksSpec)

/-- 'wireglasslaw01.BitsSigns', WHERE WHAT IT READS IS OF BULK AT MOST 1048576: true; the input reads as it did. -/
def bitsSignsUptoRow : OpenClaim := { program := "ytifalpoabgofkaa", sum := "ee529f09fda64bb5fd29882a7a8b04edb65c6b10aa05fffe6b5e73038737a062", func := "wireglass/wireglasslaw01.BitsSigns", spec := "bitsSigns", unfollowed := true, recurses := true, apart := false, narrowed := true }
def BitsSignsUptoSaid : Prop := bitsSignsUptoRow.holds Try.pinned (OpenSpec.upto bitsSignsSpec)

/-- 'wireglasslaw01.BitsBytes', WHERE WHAT IT READS IS OF BULK AT MOST 1048576: true; the input reads as it did. -/
def bitsBytesUptoRow : OpenClaim := { program := "ytifalpoabgofkaa", sum := "ee529f09fda64bb5fd29882a7a8b04edb65c6b10aa05fffe6b5e73038737a062", func := "wireglass/wireglasslaw01.BitsBytes", spec := "bitsBytes", unfollowed := true, recurses := true, apart := false, narrowed := true }
def BitsBytesUptoSaid : Prop := bitsBytesUptoRow.holds Try.pinned (OpenSpec.upto bitsBytesSpec)

/-- 'wireglasslaw01.BitsSevens', WHERE WHAT IT READS IS OF BULK AT MOST 1048576: true; the input reads as it did. -/
def bitsSevensUptoRow : OpenClaim := { program := "ytifalpoabgofkaa", sum := "ee529f09fda64bb5fd29882a7a8b04edb65c6b10aa05fffe6b5e73038737a062", func := "wireglass/wireglasslaw01.BitsSevens", spec := "bitsSevens", unfollowed := true, recurses := true, apart := false, narrowed := true }
def BitsSevensUptoSaid : Prop := bitsSevensUptoRow.holds Try.pinned (OpenSpec.upto bitsSevensSpec)

/-- 'wireglasslaw01.BitsPuts', WHERE WHAT IT READS IS OF BULK AT MOST 1048576: true; the input reads as it did. -/
def bitsPutsUptoRow : OpenClaim := { program := "ytifalpoabgofkaa", sum := "ee529f09fda64bb5fd29882a7a8b04edb65c6b10aa05fffe6b5e73038737a062", func := "wireglass/wireglasslaw01.BitsPuts", spec := "bitsPuts", unfollowed := true, recurses := true, apart := false, narrowed := true }
def BitsPutsUptoSaid : Prop := bitsPutsUptoRow.holds Try.pinned (OpenSpec.upto bitsPutsSpec)

/-- 'wireglasslaw01.BitsBack', WHERE WHAT IT READS IS OF BULK AT MOST 1048576: true; the input reads as it did. -/
def bitsBackUptoRow : OpenClaim := { program := "ytifalpoabgofkaa", sum := "ee529f09fda64bb5fd29882a7a8b04edb65c6b10aa05fffe6b5e73038737a062", func := "wireglass/wireglasslaw01.BitsBack", spec := "bitsBack", unfollowed := true, recurses := true, apart := false, narrowed := true }
def BitsBackUptoSaid : Prop := bitsBackUptoRow.holds Try.pinned (OpenSpec.upto bitsBackSpec)

end Rows
end Go.Proofs.Ytifalpoabgofkaa
