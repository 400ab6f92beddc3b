/- Hexadecimal digits, in plain Lean: both sides write the same. Conditions: the numbers are bytes, and no more than a million. -/
import Derived.Test.YtbdakgkjomanlaaDoorDx5
import Derived.Test.YtbdakgkjomanlaaDoorDx8
import Derived.Test.YtbdakgkjomanlaaDoorHPure
namespace Go.Proofs.YtbdakgkjomanlaaDoor.Pure
open Go.RowKit Go.Proofs.YtbdakgkjomanlaaDoor.D Go.Proofs.YtbdakgkjomanlaaDoorW.PrintWords Go.Proofs.YtbdakgkjomanlaaDoorW.PrintLast Go.Proofs.YtbdakgkjomanlaaDoorW.PrintMore Hand
set_option linter.unusedVariables false
def DG : ByteArray := ⟨#[48, 49, 50, 51, 52, 53, 54, 55, 56, 57, 97, 98, 99, 100, 101, 102]⟩
def isB (l : List Int) : Prop := ∀ x ∈ l, 0 ≤ x ∧ x ≤ 255
/-- Two digits for each byte. -/
def hexN (l : List Int) : List Int := l.flatMap fun c => [bt DG (c / 16), bt DG (c % 16)]
theorem hexN_cons (c : Int) (l : List Int) : hexN (c :: l) = bt DG (c / 16) :: bt DG (c % 16) :: hexN l := by simp [hexN]
theorem and15 {c : Int} (h0 : 0 ≤ c) (h1 : c ≤ 255) : Go.bits .and .u8 c 15 = c % 16 := by
  obtain ⟨n, rfl⟩ := Int.eq_ofNat_of_zero_le h0
  have hn : n < 256 := by omega
  have : ∀ m : Fin 256, Go.bits .and .u8 ((m.val : Nat) : Int) 15 = ((m.val : Nat) : Int) % 16 := by decide +kernel
  exact this ⟨n, hn⟩
theorem drop_rd {l : List Int} {i : Nat} (h : i < l.length) : l.drop i = rd l (i : Int) :: l.drop (i + 1) := by
  rw [List.drop_eq_getElem_cons h]
  congr 1
  unfold rd
  rw [Int.toNat_natCast, List.getD_eq_getElem?_getD, List.getElem?_eq_getElem h]
  rfl
theorem rd_isB {l : List Int} (hb : isB l) {i : Nat} (h : i < l.length) : 0 ≤ rd l (i : Int) ∧ rd l (i : Int) ≤ 255 := by
  apply hb
  unfold rd
  rw [Int.toNat_natCast, List.getD_eq_getElem?_getD, List.getElem?_eq_getElem h]
  exact List.getElem_mem h
theorem hexB_from (l : List Int) (hb : isB l) (hl : l.length ≤ 1000000) : ∀ (d i : Nat) (acc : List Int), i + d = l.length → acc.length ≤ 2 * i → Ev (fun k => bits_Hex.l0 k acc l (l.length : Int) (i : Int)) (strOfNums (acc ++ hexN (l.drop i)))
  | 0, i, acc, h, ha => by
    rw [List.drop_eq_nil_of_le (by omega), show hexN [] = [] from rfl, List.append_nil]
    exact Ev.step (f := fun _ => some (strOfNums acc)) (fun k => by rw [bits_Hex.l0, if_neg (by omega)]) (Ev.now _)
  | d + 1, i, acc, h, ha => by
    have hi : i < l.length := by omega
    have hc := rd_isB hb hi
    have ih := hexB_from l hb hl d (i + 1) (acc ++ [bt DG (rd l (i : Int) / 16), bt DG (rd l (i : Int) % 16)]) (by omega) (by simp; omega)
    rw [List.append_assoc] at ih
    rw [drop_rd hi, hexN_cons]
    refine Ev.step (fun k => ?_) ih
    rw [bits_Hex.l0, if_pos (by omega), if_pos (by omega), if_pos (by omega), if_pos (by omega), if_pos (by omega), and15 hc.1 hc.2, if_pos (by omega), if_pos (by omega), Option.bind_some, if_pos (by simp; omega), w64 (n := (i : Int) + 1) (by omega) (by omega)]
    rfl
theorem hexB_ev (l : List Int) (hb : isB l) (hl : l.length ≤ 1000000) : Ev (fun k => bits_Hex.f k l) (strOfNums (hexN l)) := by
  have := hexB_from l hb hl l.length 0 [] (by omega) (by simp)
  rw [List.drop_zero, List.nil_append] at this
  exact this
theorem hexR_from (l : List Int) (hb : isB l) (hl : l.length ≤ 1000000) : ∀ (d i : Nat) (acc : List Int), i + d = l.length → acc.length ≤ 2 * i → Ev (fun k => wireglassref01_Hex.l0 k l acc (i : Int)) (strOfNums (acc ++ hexN (l.drop i)))
  | 0, i, acc, h, ha => by
    rw [List.drop_eq_nil_of_le (by omega), show hexN [] = [] from rfl, List.append_nil]
    exact Ev.step (f := fun _ => some (strOfNums acc)) (fun k => by rw [wireglassref01_Hex.l0, if_neg (by omega)]) (Ev.now _)
  | d + 1, i, acc, h, ha => by
    have hi : i < l.length := by omega
    have hc := rd_isB hb hi
    have ih := hexR_from l hb hl d (i + 1) (acc ++ [bt DG (rd l (i : Int) / 16), bt DG (rd l (i : Int) % 16)]) (by omega) (by simp; omega)
    rw [List.append_assoc] at ih
    rw [drop_rd hi, hexN_cons]
    have e1 : IntKind.u8.wrap (Int.tdiv (rd l (i : Int)) 16) = rd l (i : Int) / 16 := by rw [tdiv_pos hc.1, IntKind.wrap_u8]; omega
    have e2 : Int.tmod (rd l (i : Int)) 16 = rd l (i : Int) % 16 := tmod_pos hc.1
    refine Ev.step (fun k => ?_) ih
    rw [wireglassref01_Hex.l0, if_pos (by omega), if_pos (by omega), e1, e2, if_pos (by omega), if_pos (by omega), if_pos (by omega), if_pos (by omega), Option.bind_some, if_pos (by simp; omega), w64 (n := (i : Int) + 1) (by omega) (by omega)]
    rfl
theorem hexR_ev (l : List Int) (hb : isB l) (hl : l.length ≤ 1000000) : Ev (fun k => wireglassref01_Hex.f k l) (strOfNums (hexN l)) := by
  have := hexR_from l hb hl l.length 0 [] (by omega) (by simp)
  rw [List.drop_zero, List.nil_append] at this
  exact this
end Go.Proofs.YtbdakgkjomanlaaDoor.Pure
