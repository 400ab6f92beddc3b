/- What one end closes the other one reads, whatever follows the record: the pure law of KeyOrder. Conditions: as the theorem says. -/
import Derived.Test.YtpkmfaloncclaaaS1
namespace Go.Proofs.Ytpkmfaloncclaaa.T
open Go Go.RowKit Go.Shelf Go.Proofs.Ytpkmfaloncclaaa.K Go.Proofs.Ytpkmfaloncclaaa.Pure Hand
set_option linter.unusedVariables false
theorem eqB_refl (l : List Int) : eqB l l = true := by unfold eqB; exact beq_self_eq_true _
theorem appOf_twice (key : List Int) (n : Int) {b : List Int} (h : ByteL b) : appOf key n (appOf key n b) = b := by
  have e := appOf_length key n b
  unfold appOf at e ⊢
  rw [e]
  have hs := streamOf_length key 1 (nonceOf n) (n := (b.length : Int)) (by omega)
  exact xorL_twice _ _ h (streamOf_byte _ _ _ _) (by omega)
theorem readA_rec (key : List Int) (n kind : Int) {b : List Int} (t : List Int) (h : ByteL b) (hl : b.length ≤ 400) (hn : n < 4294967296) : readA key n (recOf key n kind b ++ t) = ((kind, b, (b.length : Int) + 11, 0), n + 1) := by
  have hh := headOf_length key n kind b
  have hr := recOf_length key n kind b
  have e0 : (recOf key n kind b ++ t).getD 0 0 = kind := rfl
  have e1 : bodyLen (recOf key n kind b ++ t) = (b.length : Int) := by
    have a1 : (recOf key n kind b ++ t).getD 1 0 = (be2 b.length).getD 0 0 := rfl
    have a2 : (recOf key n kind b ++ t).getD 2 0 = (be2 b.length).getD 1 0 := rfl
    unfold bodyLen
    rw [a1, a2]
    simp only [be2, List.getD_cons_zero, List.getD_cons_succ]
    omega
  have e3 : ((b.length : Int) + 3).toNat = b.length + 3 := by omega
  have e11 : ((b.length : Int) + 11).toNat = b.length + 11 := by omega
  have t3 : (recOf key n kind b ++ t).take (b.length + 3) = headOf key n kind b := by
    rw [recOf, List.append_assoc]
    exact List.take_left' hh
  have t11 : (recOf key n kind b ++ t).take (b.length + 11) = recOf key n kind b := List.take_left' hr
  have d3 : (recOf key n kind b).drop (b.length + 3) = sealOf key n (headOf key n kind b) := List.drop_left' hh
  have d : (headOf key n kind b).drop 3 = appOf key n b := rfl
  unfold readA
  rw [e1, e3, e11, t3, t11, d3, d, e0, eqB_refl, appOf_twice key n h, if_neg (by omega), if_neg (by rw [List.length_append, hr]; omega), if_neg (by omega), if_neg (by rw [List.length_append, hr]; omega), if_pos rfl]
end Go.Proofs.Ytpkmfaloncclaaa.T
