/- The dump of bytes as a list of numbers, in plain Lean, and that both sides' lines are it. Conditions: the numbers are bytes; no more than 1600. -/
import Derived.Test.YtbdakgkjomanlaaDoorD3
namespace Go.Proofs.YtbdakgkjomanlaaDoor.Pure
open Go.RowKit Go.Proofs.YtbdakgkjomanlaaDoor.D Go.Proofs.YtbdakgkjomanlaaDoorW.PrintWords Go.Proofs.YtbdakgkjomanlaaDoorW.PrintLast Go.Proofs.YtbdakgkjomanlaaDoorW.PrintMore Hand
set_option linter.unusedVariables false
/-- A byte as it is shown. -/
def prtN (c : Int) : Int := if 32 ≤ c ∧ c ≤ 126 then c else 46
/-- One column of a line. -/
def colN (b : List Int) (i : Nat) : List Int := (if i = 8 then [32] else []) ++ ((if 0 < i then [32] else []) ++ (if i < b.length then hexN [rd b i] else [32, 32]))
def colsN (b : List Int) : Nat → List Int
  | 0 => []
  | i + 1 => colsN b i ++ colN b i
/-- One line. -/
def lineN (a : Int) (b : List Int) : List Int := hexN [a / 256 % 256, a % 256] ++ [32, 32] ++ colsN b 16 ++ [32, 32] ++ b.map prtN ++ [10]
/-- The lines of the first rows. -/
def rowsN (b : List Int) : Nat → List Int
  | 0 => []
  | j + 1 => rowsN b j ++ lineN (16 * j) ((b.drop (16 * j)).take 16)
def dumpN (b : List Int) : List Int := rowsN b ((b.length + 15) / 16)
theorem sn_app (a b : List Int) : strOfNums a ++ strOfNums b = strOfNums (a ++ b) := by
  apply ByteArray.ext
  simp [strOfNums, ByteArray.data_append]
theorem hexN_len (l : List Int) : (hexN l).length = 2 * l.length := by
  induction l with
  | nil => rfl
  | cons c l ih => rw [hexN_cons]; simp [ih]; omega
theorem hexN_one (c : Int) : hexN [c] = [bt DG (c / 16), bt DG (c % 16)] := rfl
theorem colN_len (b : List Int) (i : Nat) : (colN b i).length = (if i = 8 then 1 else 0) + (if 0 < i then 1 else 0) + 2 := by
  unfold colN
  have : (if i < b.length then hexN [rd b i] else [32, 32]).length = 2 := by split <;> simp [hexN_len]
  rw [List.length_append, List.length_append, this]
  split <;> split <;> simp
theorem colsN_len (b : List Int) : (colsN b 16).length = 48 := by
  simp only [colsN, List.length_append, colN_len]
  rfl
theorem colsN_bd (b : List Int) : ∀ i, i ≤ 16 → (colsN b i).length ≤ 4 * i
  | 0, _ => by simp [colsN]
  | i + 1, h => by
    have := colsN_bd b i (by omega)
    simp only [colsN, List.length_append, colN_len]
    split <;> split <;> omega
theorem lineN_len (a : Int) (b : List Int) : (lineN a b).length = 57 + b.length := by
  simp only [lineN, List.length_append, hexN_len, colsN_len, List.length_map, List.length_cons, List.length_nil]
  omega
theorem rowsN_len (b : List Int) : ∀ j, (rowsN b j).length ≤ 73 * j
  | 0 => by simp [rowsN]
  | j + 1 => by
    have := rowsN_len b j
    simp only [rowsN, List.length_append, lineN_len]
    have : ((b.drop (16 * j)).take 16).length ≤ 16 := List.length_take_le _ _
    omega
theorem isB_nil : isB [] := fun _ h => by simp at h
theorem isB_cons {c : Int} {l : List Int} (h0 : 0 ≤ c) (h1 : c ≤ 255) (h : isB l) : isB (c :: l) := by
  intro x hx
  rcases List.mem_cons.1 hx with rfl | hx
  · exact ⟨h0, h1⟩
  · exact h x hx
theorem isB_app {a b : List Int} (ha : isB a) (hb : isB b) : isB (a ++ b) := by
  intro x hx
  rcases List.mem_append.1 hx with hx | hx
  · exact ha x hx
  · exact hb x hx
theorem isB_cut {l : List Int} (h : isB l) (m n : Nat) : isB ((l.drop m).take n) := fun x hx => h x (List.mem_of_mem_drop (List.mem_of_mem_take hx))
theorem hexN_isB (l : List Int) : isB (hexN l) := by
  induction l with
  | nil => exact isB_nil
  | cons c l ih => rw [hexN_cons]; exact isB_cons (bt_bd _ _).1 (bt_bd _ _).2 (isB_cons (bt_bd _ _).1 (bt_bd _ _).2 ih)
theorem prtN_bd {c : Int} : 0 ≤ prtN c ∧ prtN c ≤ 255 := by
  unfold prtN
  split <;> omega
theorem prtN_isB (l : List Int) : isB (l.map prtN) := by
  intro x hx
  obtain ⟨y, _, rfl⟩ := List.mem_map.1 hx
  exact prtN_bd
theorem isB_one {c : Int} (h0 : 0 ≤ c) (h1 : c ≤ 255) : isB [c] := isB_cons h0 h1 isB_nil
theorem colN_isB (b : List Int) (i : Nat) : isB (colN b i) := by
  unfold colN
  refine isB_app ?_ (isB_app ?_ ?_)
  · split
    · exact isB_one (by omega) (by omega)
    · exact isB_nil
  · split
    · exact isB_one (by omega) (by omega)
    · exact isB_nil
  · split
    · exact hexN_isB _
    · exact isB_cons (by omega) (by omega) (isB_one (by omega) (by omega))
theorem colsN_isB (b : List Int) : ∀ i, isB (colsN b i)
  | 0 => isB_nil
  | i + 1 => isB_app (colsN_isB b i) (colN_isB b i)
theorem lineN_isB (a : Int) (b : List Int) : isB (lineN a b) := by
  unfold lineN
  have s2 : isB [32, 32] := isB_cons (by omega) (by omega) (isB_one (by omega) (by omega))
  exact isB_app (isB_app (isB_app (isB_app (isB_app (hexN_isB _) s2) (colsN_isB _ _)) s2) (prtN_isB _)) (isB_one (by omega) (by omega))
theorem rowsN_isB (b : List Int) : ∀ j, isB (rowsN b j)
  | 0 => isB_nil
  | j + 1 => isB_app (rowsN_isB b j) (lineN_isB _ _)
end Go.Proofs.YtbdakgkjomanlaaDoor.Pure
