/- An element of an array's value, at any place in it. Conditions: the elements are plain and one cell each, and the place is within the array. -/
import Derived.ChangeKeysEq
import Derived.Laws.Entries
import Derived.RowKit
namespace Go.Proofs.YtbloalfgbpgepaaDoor.Hand
open Go Go.RowKit
theorem run_index_arr {P : Program} {t e : TypeId} {n : Nat} {k : IntKind} {i : Int} {cs : Array Value} {v : Value} (w : World) (h : P.underlying t = some (.array n e)) (he : P.plainKey e = true) (hi : (P.info? e).isSome = true) (hs : P.cellsOf e = 1)
    (h0 : 0 ≤ i) (h1 : i < n) (hx : cs[i.toNat]? = some v) : (Instr.index t (.agg cs) (.int k i)).run P w = .ok v w := by
  obtain ⟨i0, hi⟩ := Option.isSome_iff_exists.1 hi
  have hp := run_part_plain w he hx
  have hsz := run_sizeOf w hi
  rw [hs] at hsz
  simp [go_sem] at hp
  simp [Instr.index, asIntOf, run_underlying h, h0, h1, hsz, go_sem]
  simpa using hp
end Go.Proofs.YtbloalfgbpgepaaDoor.Hand
