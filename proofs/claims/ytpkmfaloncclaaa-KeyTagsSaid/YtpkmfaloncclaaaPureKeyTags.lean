/- The statement KeyTags in plain Lean: that the program's tag and made key are the reference's, for all bytes. No condition beyond the kinds of the numbers. -/
import Derived.Test.YtpkmfaloncclaaaGx8
import Derived.Test.YtpkmfaloncclaaaK2
namespace Go.Proofs.Ytpkmfaloncclaaa.Pure
open Go.RowKit Go.Proofs.Ytpkmfaloncclaaa.G Go.Proofs.YtpkmfaloncclaaaW.PrintWords Go.Proofs.YtpkmfaloncclaaaW.PrintLast Hand
set_option linter.unusedVariables false
theorem Tag_same (l0 l1 : List Int) (h0 : ByteL l0) (h1 : ByteL l1) : ∃ r e, key_Tag.f l0 l1 = some (r, e) ∧ wireglassref21_Tag.f l0 l1 = some (r, e) := by
  unfold key_Tag.f wireglassref21_Tag.f
  by_cases c1 : (l0.length : Int) = 16
  · rw [if_pos c1, if_pos c1]
    by_cases c2 : (l1.length : Int) > 131072
    · rw [if_pos c2, if_pos c2]; exact ⟨_, _, rfl, rfl⟩
    · rw [if_neg c2, if_neg c2, tag_is (by omega) h0 h1, rtag_is (by omega) h0 h1]; exact ⟨_, _, rfl, rfl⟩
  · rw [if_neg c1, if_neg c1]; exact ⟨_, _, rfl, rfl⟩
theorem Make_same (l0 l1 : List Int) (h0 : ByteL l0) (h1 : ByteL l1) : ∃ r e, key_Make.f l0 l1 = some (r, e) ∧ wireglassref21_Make.f l0 l1 = some (r, e) := by
  have hs : key_isSecret.f l0 = some (decide (1 ≤ l0.length ∧ l0.length ≤ 200)) := isText_is l0
  have hr : wireglassref21_Make.f l0 l1 = some (if makeOk l0 l1 then (derN l0 l1 4, 0) else ([], 1)) := by
    unfold wireglassref21_Make.f
    rw [if_pos ⟨allB h0, allB h1⟩]
  unfold key_Make.f
  rw [hr, hs]
  simp only [Option.bind_some]
  by_cases c1 : 1 ≤ l0.length ∧ l0.length ≤ 200
  · rw [if_pos (decide_eq_true c1)]
    by_cases c2 : (l1.length : Int) > 200
    · rw [if_pos c2, if_neg (fun h : makeOk l0 l1 => by have := h.2; omega)]; exact ⟨_, _, rfl, rfl⟩
    · have hd : key_derived.f l0 l1 = some (derN l0 l1 4) := by
        unfold key_derived.f
        rw [if_pos ⟨⟨by omega, by omega⟩, allB h0, allB h1⟩]
      rw [if_neg c2, if_pos ⟨c1, by omega⟩, hd]; exact ⟨_, _, rfl, rfl⟩
  · rw [if_neg (by rw [decide_eq_false c1]; decide), if_neg (fun h : makeOk l0 l1 => c1 h.1)]; exact ⟨_, _, rfl, rfl⟩
theorem KeyTags : wireglasslaw21_KeyTags.Pure := by
  intro l0 l1 _ _ hb0 _ _ hb1
  obtain ⟨r, e, h1, h2⟩ := Tag_same l0 l1 (byteL_of hb0) (byteL_of hb1)
  obtain ⟨r2, e2, h3, h4⟩ := Make_same l0 l1 (byteL_of hb0) (byteL_of hb1)
  have hk : wireglasslaw21_known.f = some true := rfl
  unfold wireglasslaw21_KeyTags.f
  rw [h1, h2, h3, h4, hk]
  simp only [Option.bind_some, if_true]
  exact ite_self _
end Go.Proofs.Ytpkmfaloncclaaa.Pure
