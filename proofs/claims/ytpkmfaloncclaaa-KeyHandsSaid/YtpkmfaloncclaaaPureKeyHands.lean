/- The statement KeyHands in plain Lean: that the program's key of a phrase and two numbers is the reference's, whichever number is told first. No condition beyond the kinds of the numbers. -/
import Derived.Test.YtpkmfaloncclaaaGx9
namespace Go.Proofs.Ytpkmfaloncclaaa.Pure
open Go.RowKit Go.Proofs.Ytpkmfaloncclaaa.G Go.Proofs.YtpkmfaloncclaaaW.PrintWords Go.Proofs.YtpkmfaloncclaaaW.PrintLast Hand
set_option linter.unusedVariables false
theorem cmp_flip : ∀ x y : List UInt8, Lib.compareBytes y x = - Lib.compareBytes x y
  | [], [] => rfl
  | [], _ :: _ => rfl
  | _ :: _, [] => rfl
  | a :: x, b :: y => by
    unfold Lib.compareBytes
    by_cases h : a < b
    · have h1 : ¬ b < a := fun h2 => by rw [UInt8.lt_iff_toNat_lt] at h h2; omega
      rw [if_neg h1, if_pos h, if_pos h]; rfl
    · by_cases h1 : b < a
      · rw [if_pos h1, if_neg h, if_pos h1]
      · rw [if_neg h1, if_neg h, if_neg h, if_neg h1, cmp_flip x y]
theorem cmp_zero : ∀ x y : List UInt8, Lib.compareBytes x y = 0 → x = y
  | [], [], _ => rfl
  | [], _ :: _, h => by simp [Lib.compareBytes] at h
  | _ :: _, [], h => by simp [Lib.compareBytes] at h
  | a :: x, b :: y, h => by
    unfold Lib.compareBytes at h
    by_cases h0 : a < b
    · rw [if_pos h0] at h; cases h
    · by_cases h1 : b < a
      · rw [if_neg h0, if_pos h1] at h; cases h
      · rw [if_neg h0, if_neg h1] at h
        have e : a = b := by
          rw [UInt8.lt_iff_toNat_lt] at h0 h1
          exact UInt8.toNat_inj.1 (by omega)
        rw [e, cmp_zero x y h]
theorem bytes_inj : ∀ (x y : List Int), ByteL x → ByteL y → Lib.bytesOf x = Lib.bytesOf y → x = y
  | [], [], _, _, _ => rfl
  | [], _ :: _, _, _, h => by simp [Lib.bytesOf] at h
  | _ :: _, [], _, _, h => by simp [Lib.bytesOf] at h
  | a :: x, b :: y, hx, hy, h => by
    simp only [Lib.bytesOf, List.map_cons, List.cons.injEq] at h
    have ha := hx a List.mem_cons_self
    have hb := hy b List.mem_cons_self
    have e := congrArg UInt8.toNat h.1
    rw [UInt8.toNat_ofNat', UInt8.toNat_ofNat'] at e
    have e2 : a = b := by omega
    rw [e2, bytes_inj x y (fun z hz => hx z (List.mem_cons_of_mem _ hz)) (fun z hz => hy z (List.mem_cons_of_mem _ hz)) h.2]
theorem handS_flip {a c : List Int} (ha : ByteL a) (hc : ByteL c) : handS c a = handS a c := by
  unfold handS
  have hf := cmp_flip (Lib.bytesOf a) (Lib.bytesOf c)
  by_cases h : 0 < Lib.compareBytes (Lib.bytesOf a) (Lib.bytesOf c)
  · rw [if_pos h, if_neg (by omega)]
  · rw [if_neg h]
    by_cases h2 : 0 < Lib.compareBytes (Lib.bytesOf c) (Lib.bytesOf a)
    · rw [if_pos h2]
    · have e := bytes_inj a c ha hc (cmp_zero _ _ (by omega))
      rw [if_neg h2, e]
theorem handA_flip (s0 s1 : ByteArray) {a c : List Int} (ha : ByteL a) (hc : ByteL c) : handA s0 s1 c a = handA s0 s1 a c := by
  unfold handA
  rw [handS_flip ha hc]
  by_cases h : handOk s0 s1 a c
  · rw [if_pos h, if_pos ⟨h.1, h.2.2, h.2.1⟩]
  · rw [if_neg h, if_neg (fun k : handOk s0 s1 c a => h ⟨k.1, k.2.2, k.2.1⟩)]
theorem KeyHands : wireglasslaw21_KeyHands.Pure := by
  intro s0 s1 l1 l2 _ _ _ _ hb1 _ _ hb2
  have b1 : ByteL l1 := fun x hx => wf8 (hb1 x hx)
  have b2 : ByteL l2 := fun x hx => wf8 (hb2 x hx)
  have h1 : key_Hand.f s0 s1 l1 l2 = some (handA s0 s1 l1 l2) := by unfold key_Hand.f; rw [if_pos ⟨allB b1, allB b2⟩]
  have h2 : wireglassref21_Hand.f s0 s1 l1 l2 = some (handA s0 s1 l1 l2) := by unfold wireglassref21_Hand.f; rw [if_pos ⟨allB b1, allB b2⟩]
  have h3 : key_Hand.f s0 s1 l2 l1 = some (handA s0 s1 l1 l2) := by unfold key_Hand.f; rw [if_pos ⟨allB b2, allB b1⟩, handA_flip s0 s1 b1 b2]
  have hk : wireglasslaw21_known.f = some true := rfl
  unfold wireglasslaw21_KeyHands.f
  rw [h1, h2, h3, hk]
  simp only [Option.bind_some, if_true]
  exact ite_self _
end Go.Proofs.Ytpkmfaloncclaaa.Pure
