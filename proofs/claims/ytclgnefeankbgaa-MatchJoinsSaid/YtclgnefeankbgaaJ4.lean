/- MatchJoins: the walk, whatever the input. Conditions: as each theorem says. -/
import Derived.Test.YtclgnefeankbgaaJ3
namespace Go.Proofs.Ytclgnefeankbgaa.M
open Go Go.RowKit Go.Proofs.YtclgnefeankbgaaW.PrintWords Go.Proofs.YtclgnefeankbgaaW.PrintLast Go.Proofs.YtclgnefeankbgaaW.PrintMore Hand
set_option linter.unusedVariables false
theorem eOf_ok {r : PR} (h : ¬ eOf r ≠ 0) : ∃ z xs, r = .ok z xs := by
  cases r with
  | large => exact absurd (show (3 : Int) ≠ 0 by decide) h
  | wrong n => exact absurd (show (2 : Int) ≠ 0 by decide) h
  | ok z xs => exact ⟨z, xs, rfl⟩
theorem MatchJoins.walk (s t : ByteArray) (a1 : Option Addr) (len1 cap1 : Nat) (z1 : List Int) (a2 : Int) (w : World) (w0 : s.size ≤ 140737488351232) (w00 : t.size ≤ 140737488351232) (w1 : IsRowX w a1 len1 cap1 z1) (y1 : len1 * 1 ≤ 140737488351232) (w2 : (Lit.int .i64 a2).wf = true) :
    Calls Try.prog 3 #[.agg #[.string s, .string t], .slice a1 len1 cap1, .int .i64 a2] w fun e w' => e = .returned (.bool true) ∧ Below w.heap.size w w' := by
  by_cases h : 32768 < s.size + t.size ∨ 300 < len1
  · exact MatchJoins.small s t a1 len1 cap1 a2 w w0 w00 h
  · obtain ⟨bs, rfl, hb, hc⟩ := BY.of w1 (by omega)
    have j3 : (joinS s barM t).size ≤ 9223372036854775807 := by rw [joinS_size]; show s.size + 3 + t.size + 2 ≤ _; omega
    have j4 : (joinS s rowM t).size ≤ 9223372036854775807 := by rw [joinS_size]; show s.size + 2 + t.size + 2 ≤ _; omega
    have p1 := fun W' => Parse.callsG s W' (by omega)
    have p2 := fun W' => Parse.callsG t W' (by omega)
    have p3 := fun W' => Parse.callsG (joinS s barM t) W' j3
    have p4 := fun W' => Parse.callsG (joinS s rowM t) W' j4
    by_cases he : eOf (parseR s false) ≠ 0 ∨ eOf (parseR t false) ≠ 0 ∨ eOf (parseR (joinS s barM t) false) ≠ 0 ∨ eOf (parseR (joinS s rowM t) false) ≠ 0
    · exact MatchJoins.wrong s t a1 bs.length cap1 a2 w (by omega) (by omega) _ _ _ _ _ _ _ _ he p1 p2 p3 p4
    · obtain ⟨z1, x1, h1⟩ := eOf_ok (fun h => he (.inl h))
      obtain ⟨z2, x2, h2⟩ := eOf_ok (fun h => he (.inr (.inl h)))
      obtain ⟨z3, x3, h3⟩ := eOf_ok (fun h => he (.inr (.inr (.inl h))))
      obtain ⟨z4, x4, h4⟩ := eOf_ok (fun h => he (.inr (.inr (.inr h))))
      exact MatchJoins.ok s t a1 cap1 bs a2 w (by omega) hb (by omega) z1 z2 z3 z4 x1 x2 x3 x4 h1 h2 h3 h4
end Go.Proofs.Ytclgnefeankbgaa.M
