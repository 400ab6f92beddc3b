/- The reference's line and dump are those lists, in plain Lean. Conditions: the numbers are bytes; no more than 16 a line. -/
import Derived.Test.YtlilcbpcjmcfbaaDoorE1
namespace Go.Proofs.YtlilcbpcjmcfbaaDoor.Pure
open Go.RowKit Go.Proofs.YtlilcbpcjmcfbaaDoor.D Go.Proofs.YtlilcbpcjmcfbaaDoorW.PrintWords Go.Proofs.YtlilcbpcjmcfbaaDoorW.PrintLast Go.Proofs.YtlilcbpcjmcfbaaDoorW.PrintMore Hand
set_option linter.unusedVariables false
theorem cut1 {l : List Int} {i : Nat} (h : i < l.length) : (l.take (i + 1)).drop i = [rd l i] := by
  rw [List.drop_take, drop_rd h, show i + 1 - i = 1 by omega]
  rfl
theorem take_rd {l : List Int} {i : Nat} (h : i < l.length) : l.take (i + 1) = l.take i ++ [rd l i] := by
  conv => lhs; rw [← List.take_append_drop i (l.take (i + 1)), cut1 h, List.take_take, Nat.min_eq_left (by omega)]
theorem sn32 (a : List Int) : strOfNums a ++ (⟨#[32]⟩ : ByteArray) = strOfNums (a ++ [32]) := sn_app a [32]
theorem sn46 (a : List Int) : strOfNums a ++ (⟨#[46]⟩ : ByteArray) = strOfNums (a ++ [46]) := sn_app a [46]
theorem sn10 (a : List Int) : strOfNums a ++ (⟨#[10]⟩ : ByteArray) = strOfNums (a ++ [10]) := sn_app a [10]
theorem sn3232 (a : List Int) : strOfNums a ++ (⟨#[32, 32]⟩ : ByteArray) = strOfNums (a ++ [32, 32]) := sn_app a [32, 32]
def colR (b : List Int) (i : Nat) : List Int := [32] ++ ((if i = 8 then [32] else []) ++ (if i < b.length then hexN [rd b i] else [32, 32]))
def colsR (b : List Int) : Nat → List Int
  | 0 => []
  | i + 1 => colsR b i ++ colR b i
theorem colR_eq (b : List Int) (i : Nat) : colR b i = if i = 0 then 32 :: colN b i else colN b i := by
  unfold colR colN
  by_cases h0 : i = 0
  · subst h0; simp
  · rw [if_neg h0, if_pos (show 0 < i by omega)]
    split <;> simp
theorem colsR_eq (b : List Int) : ∀ i, colsR b (i + 1) = 32 :: colsN b (i + 1)
  | 0 => by simp [colsR, colsN, colR_eq]
  | i + 1 => by
    rw [colsR, colsR_eq b i, colR_eq, if_neg (by omega)]
    rfl
theorem colsR_bd (b : List Int) (i : Nat) (h : i ≤ 16) : (colsR b i).length ≤ 70 := by
  cases i with
  | zero => simp [colsR]
  | succ i =>
    rw [colsR_eq]
    have := colsN_bd b (i + 1) h
    simp only [List.length_cons]
    omega
theorem lineR1 (l : List Int) (hb : isB l) (hl : l.length ≤ 16) (acc : List Int) (ha : acc.length ≤ 1000) : ∀ (d i : Nat), i + d = l.length → Ev (fun k => wireglassref01_line.l1 k l (strOfNums (acc ++ (l.take i).map prtN)) (i : Int)) (strOfNums (acc ++ l.map prtN ++ [10]))
  | 0, i, h => by
    have hs : (strOfNums (acc ++ (l.take i).map prtN)).size ≤ 1016 := by
      rw [strOfNums_size, List.length_append, List.length_map, List.length_take]; omega
    rw [← sn10]
    refine Ev.step (f := fun _ => some (strOfNums (acc ++ l.map prtN) ++ (⟨#[10]⟩ : ByteArray))) (fun k => ?_) (Ev.now _)
    rw [wireglassref01_line.l1, if_neg (by omega), if_pos (by omega), List.take_of_length_le (by omega)]
  | d + 1, i, h => by
    have hi : i < l.length := by omega
    have hc := rd_isB hb hi
    have ih := lineR1 l hb hl acc ha d (i + 1) (by omega)
    have hs : (strOfNums (acc ++ (l.take i).map prtN)).size ≤ 1016 := by
      rw [strOfNums_size, List.length_append, List.length_map, List.length_take]; omega
    rw [take_rd hi, List.map_append, ← List.append_assoc, List.map_cons, List.map_nil, Int.natCast_add] at ih
    have e1 : wrap64 ((i : Int) + 1) = (i : Int) + 1 := w64 (by omega) (by omega)
    refine Ev.step (fun k => ?_) ih
    rw [wireglassref01_line.l1, if_pos (by omega), if_pos (by omega), e1]
    by_cases c0 : rd l (i : Int) ≥ 32
    · rw [if_pos c0]
      by_cases c1 : rd l (i : Int) ≤ 126
      · rw [if_pos c1, if_pos (by omega), if_pos (by omega), show ((i : Int) + 1).toNat = i + 1 by omega, show ((i : Int)).toNat = i by omega, cut1 hi, if_pos (by have := strOfNums_size [rd l (i : Int)]; rw [List.length_singleton] at this; omega), sn_app]
        rw [show prtN (rd l (i : Int)) = rd l (i : Int) by unfold prtN; rw [if_pos ⟨by omega, by omega⟩]]
        rfl
      · rw [if_neg c1, if_pos (by omega), sn46, show prtN (rd l (i : Int)) = 46 by unfold prtN; rw [if_neg (by omega)]]
        rfl
    · rw [if_neg c0, if_pos (by omega), sn46, show prtN (rd l (i : Int)) = 46 by unfold prtN; rw [if_neg (by omega)]]
      rfl
theorem lineR0 (l : List Int) (hb : isB l) (hl : l.length ≤ 16) (pre : List Int) (hp : pre.length ≤ 10) : ∀ (d i : Nat), i + d = 16 → Ev (fun k => wireglassref01_line.l0 k l (strOfNums (pre ++ colsR l i)) (i : Int)) (strOfNums (pre ++ colsR l 16 ++ [32, 32] ++ l.map prtN ++ [10]))
  | 0, i, h => by
    have hi : i = 16 := by omega
    subst hi
    have hcs := colsR_bd l 16 (Nat.le_refl _)
    have hs : (strOfNums (pre ++ colsR l 16)).size ≤ 80 := by
      rw [strOfNums_size, List.length_append]; omega
    have h1 := lineR1 l hb hl (pre ++ colsR l 16 ++ [32, 32]) (by simp only [List.length_append, List.length_cons, List.length_nil]; omega) l.length 0 (by omega)
    refine Ev.step (fun k => ?_) h1
    rw [wireglassref01_line.l0, if_neg (by omega), if_pos (by omega), sn3232]
    simp
  | d + 1, i, h => by
    have hcs := colsR_bd l i (by omega)
    have hs : (strOfNums (pre ++ colsR l i)).size ≤ 80 := by
      rw [strOfNums_size, List.length_append]; omega
    have ih := lineR0 l hb hl pre hp d (i + 1) (by omega)
    rw [colsR, ← List.append_assoc, Int.natCast_add] at ih
    have e1 : wrap64 ((i : Int) + 1) = (i : Int) + 1 := w64 (by omega) (by omega)
    have hz : ∀ x : List Int, x.length ≤ 80 → (strOfNums x).size + 1 ≤ 9223372036854775807 ∧ (strOfNums x).size + 2 ≤ 9223372036854775807 := fun x hx => by rw [strOfNums_size]; omega
    have hw : (pre ++ colsR l i).length ≤ 80 := by rw [List.length_append]; omega
    have h2 : ∀ x : List Int, (strOfNums (hexN [rd l (i : Int)])).size = 2 := fun x => by rw [strOfNums_size, hexN_len]; rfl
    by_cases c8 : i = 8
    · by_cases cl : i < l.length
      · have hx := hexR_ev [rd l (i : Int)] (isB_one (rd_isB hb cl).1 (rd_isB hb cl).2) (by simp)
        refine Ev.step (fun k => ?_) (Ev.bind (f := fun k t => if ((strOfNums (pre ++ colsR l i) ++ (⟨#[32]⟩ : ByteArray)) ++ (⟨#[32]⟩ : ByteArray)).size + t.size ≤ 9223372036854775807 then wireglassref01_line.l0 k l (((strOfNums (pre ++ colsR l i) ++ (⟨#[32]⟩ : ByteArray)) ++ (⟨#[32]⟩ : ByteArray)) ++ t) (wrap64 ((i : Int) + 1)) else none) hx ?_)
        · rw [wireglassref01_line.l0, if_pos (by omega), if_pos (by omega), if_pos (by omega), if_pos (by rw [sn32, strOfNums_size]; simp; omega), if_pos (by omega), if_pos (by omega), if_pos (by omega), if_pos (by omega)]
          rw [e1, show ((i : Int) + 1).toNat = i + 1 by omega, show ((i : Int)).toNat = i by omega, cut1 cl]
        · refine Ev.if_pos (by rw [sn32, sn32, strOfNums_size, h2 []]; simp; omega) ?_
          rw [sn32, sn32, sn_app, e1]
          refine Ev.congr (fun k => ?_) ih
          rw [colR, if_pos c8, if_pos cl]
          simp only [List.append_assoc]
          rfl
      · refine Ev.step (fun k => ?_) ih
        rw [wireglassref01_line.l0, if_pos (by omega), if_pos (by omega), if_pos (by omega), if_pos (by rw [sn32, strOfNums_size]; simp; omega), if_neg (by omega), if_pos (by rw [sn32, sn32, strOfNums_size]; simp; omega), sn32, sn32, sn3232, e1, colR, if_pos c8, if_neg cl]
        simp only [List.append_assoc]
        rfl
    · by_cases cl : i < l.length
      · have hx := hexR_ev [rd l (i : Int)] (isB_one (rd_isB hb cl).1 (rd_isB hb cl).2) (by simp)
        refine Ev.step (fun k => ?_) (Ev.bind (f := fun k t => if (strOfNums (pre ++ colsR l i) ++ (⟨#[32]⟩ : ByteArray)).size + t.size ≤ 9223372036854775807 then wireglassref01_line.l0 k l ((strOfNums (pre ++ colsR l i) ++ (⟨#[32]⟩ : ByteArray)) ++ t) (wrap64 ((i : Int) + 1)) else none) hx ?_)
        · rw [wireglassref01_line.l0, if_pos (by omega), if_pos (by omega), if_neg (by omega), if_pos (by omega), if_pos (by omega), if_pos (by omega), if_pos (by omega)]
          rw [e1, show ((i : Int) + 1).toNat = i + 1 by omega, show ((i : Int)).toNat = i by omega, cut1 cl]
        · refine Ev.if_pos (by rw [sn32, strOfNums_size, h2 []]; simp; omega) ?_
          rw [sn32, sn_app, e1]
          refine Ev.congr (fun k => ?_) ih
          rw [colR, if_neg c8, if_pos cl]
          simp only [List.append_assoc]
          rfl
      · refine Ev.step (fun k => ?_) ih
        rw [wireglassref01_line.l0, if_pos (by omega), if_pos (by omega), if_neg (by omega), if_neg (by omega), if_pos (by rw [sn32, strOfNums_size]; simp; omega), sn32, sn3232, e1, colR, if_neg c8, if_neg cl]
        simp only [List.append_assoc]
        rfl
theorem lineR_ev (a : Int) (h0 : 0 ≤ a) (h1 : a ≤ 100000) (l : List Int) (hb : isB l) (hl : l.length ≤ 16) : Ev (fun k => wireglassref01_line.f k a l) (strOfNums (lineN a l)) := by
  have e1 : wrap64 (Int.tdiv a 256) % 256 = a / 256 % 256 := by rw [tdiv_pos h0, w64 (by omega) (by omega)]
  have e2 : Int.tmod a 256 % 256 = a % 256 := by rw [tmod_pos h0, Int.emod_emod]
  have hx := hexR_ev [a / 256 % 256, a % 256] (isB_cons (by omega) (by omega) (isB_one (by omega) (by omega))) (by simp)
  unfold wireglassref01_line.f
  rw [e1, e2]
  refine Ev.bind hx (Ev.if_pos (by rw [strOfNums_size, hexN_len]; simp) ?_)
  have hp : (hexN [a / 256 % 256, a % 256] ++ [32]).length ≤ 10 := by rw [List.length_append, hexN_len]; simp
  have h := lineR0 l hb hl (hexN [a / 256 % 256, a % 256] ++ [32]) hp 16 0 rfl
  rw [sn32]
  rw [colsR_eq] at h
  have e : hexN [a / 256 % 256, a % 256] ++ [32] ++ (32 :: colsN l (15 + 1)) ++ [32, 32] ++ l.map prtN ++ [10] = lineN a l := by simp [lineN]
  rw [e] at h
  refine Ev.congr (fun k => ?_) h
  simp [colsR]
theorem rowsR (b : List Int) (hb : isB b) (hl : b.length ≤ 1600) : ∀ (d j : Nat), j + d = (b.length + 15) / 16 → Ev (fun k => wireglassref01_Dump.l0 k b (strOfNums (rowsN b j)) ((16 * j : Nat) : Int)) (strOfNums (dumpN b), 0)
  | 0, j, h => by
    refine Ev.step (f := fun _ => some (strOfNums (dumpN b), 0)) (fun k => ?_) (Ev.now _)
    rw [wireglassref01_Dump.l0, if_neg (by omega), show j = (b.length + 15) / 16 by omega]
    rfl
  | d + 1, j, h => by
    have ih := rowsR b hb hl d (j + 1) (by omega)
    have e1 : wrap64 (((16 * j : Nat) : Int) + 16) = ((16 * (j + 1) : Nat) : Int) := by rw [w64 (by omega) (by omega)]; omega
    have e2 : (b.take (mn ((16 * (j + 1) : Nat) : Int) (b.length : Int)).toNat).drop (((16 * j : Nat) : Int)).toNat = (b.drop (16 * j)).take 16 := by
      rw [Int.toNat_natCast, List.drop_take]
      unfold mn
      by_cases c : 16 * (j + 1) ≤ b.length
      · rw [if_neg (by omega), Int.toNat_natCast, show 16 * (j + 1) - 16 * j = 16 by omega]
      · rw [if_pos (by omega), Int.toNat_natCast, List.take_of_length_le (by simp), List.take_of_length_le (by simp; omega)]
    have e3 : ((16 * j : Nat) : Int) = 16 * (j : Int) := by omega
    have hx := lineR_ev ((16 * j : Nat) : Int) (by omega) (by omega) ((b.drop (16 * j)).take 16) (isB_cut hb _ _) (List.length_take_le _ _)
    have hr := rowsN_len b j
    have hq := lineN_len ((16 * j : Nat) : Int) ((b.drop (16 * j)).take 16)
    have hq2 : ((b.drop (16 * j)).take 16).length ≤ 16 := List.length_take_le _ _
    refine Ev.step (fun k => ?_) (Ev.bind (f := fun k t => if (strOfNums (rowsN b j)).size + t.size ≤ 9223372036854775807 then wireglassref01_Dump.l0 k b (strOfNums (rowsN b j) ++ t) (wrap64 (((16 * j : Nat) : Int) + 16)) else none) hx ?_)
    · rw [wireglassref01_Dump.l0, if_pos (by omega), if_pos (by omega), e1, if_pos (by unfold mn; split <;> omega), if_pos (by unfold mn; split <;> omega), e2]
    · refine Ev.if_pos (by rw [strOfNums_size, strOfNums_size]; omega) ?_
      rw [sn_app, e1]
      refine Ev.congr (fun k => ?_) ih
      rw [rowsN, e3]
theorem dumpR_ev (b : List Int) (hb : isB b) (hl : b.length ≤ 1600) : Ev (fun k => wireglassref01_Dump.f k b) (strOfNums (dumpN b), 0) := by
  unfold wireglassref01_Dump.f
  exact Ev.if_neg (by omega) (rowsR b hb hl ((b.length + 15) / 16) 0 (by omega))
theorem dumpR_big (b : List Int) (hl : ¬ b.length ≤ 1600) : Ev (fun k => wireglassref01_Dump.f k b) ((⟨#[]⟩ : ByteArray), 3) := by
  unfold wireglassref01_Dump.f
  exact Ev.if_pos (by omega) (Ev.now _)
end Go.Proofs.YtlilcbpcjmcfbaaDoor.Pure
