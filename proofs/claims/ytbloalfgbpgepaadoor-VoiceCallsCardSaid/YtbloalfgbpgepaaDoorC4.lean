/- Who calls, by both sides, in plain Lean; a call's line; an act's step. Conditions: as each lemma says. -/
import Derived.Test.YtbloalfgbpgepaaDoorCx3
import Derived.Test.YtbloalfgbpgepaaDoorCx4
import Derived.Test.YtbloalfgbpgepaaDoorCx5
import Derived.Test.YtbloalfgbpgepaaDoorC3
import Derived.Lib.ItoaLen
namespace Go.Proofs.YtbloalfgbpgepaaDoor.T
open Go Go.RowKit Go.Shelf Go.Proofs.YtbloalfgbpgepaaDoor.C Go.Proofs.YtbloalfgbpgepaaDoorW.PrintWords Go.Proofs.YtbloalfgbpgepaaDoorW.PrintLast Go.Proofs.YtbloalfgbpgepaaDoorW.PrintMore Hand
set_option linter.unusedVariables false
set_option linter.unusedSimpArgs false
/-- All bytes are such as a caller's text may have. -/
def allW (s : ByteArray) : Prop := ∀ i : Nat, i < s.size → 33 ≤ bt s (i : Int) ∧ bt s (i : Int) ≤ 126
instance (s : ByteArray) : Decidable (allW s) := by unfold allW; exact inferInstance
def isW (s : ByteArray) : Bool := decide (1 ≤ s.size ∧ s.size ≤ 16 ∧ allW s)
theorem isC_from (s : ByteArray) (hs : s.size ≤ 9223372036854775806) : ∀ (d i : Nat), i + d = s.size → (∀ j : Nat, j < i → 33 ≤ bt s (j : Int) ∧ bt s (j : Int) ≤ 126) → Ev (fun k => voice_isCaller.l0 k s (s.size : Int) (i : Int)) (isW s)
  | 0, i, h, ha => by
    have hall : allW s := fun j hj => ha j (by omega)
    by_cases e : s.size = 0
    · have e1 : s.toList = [] := by rw [ByteArray.toList_eq]; exact List.eq_nil_of_length_eq_zero (by simpa using e)
      refine Ev.step (f := fun _ => some (isW s)) (fun k => ?_) (Ev.now _)
      rw [voice_isCaller.l0, if_neg (by omega), if_pos e1]
      congr 1
      unfold isW
      rw [decide_eq_false (by omega)]
    · have e1 : s.toList ≠ [] := fun e2 => e (by rw [ByteArray.toList_eq] at e2; have := congrArg List.length e2; simpa using this)
      refine Ev.step (f := fun _ => some (isW s)) (fun k => ?_) (Ev.now _)
      rw [voice_isCaller.l0, if_neg (by omega), if_neg e1]
      congr 1
      unfold isW
      rw [Bool.eq_iff_iff, decide_eq_true_iff, decide_eq_true_iff]
      constructor
      · exact fun h => ⟨by omega, by omega, hall⟩
      · exact fun h => by omega
  | d + 1, i, h, ha => by
    have hf : ¬ (33 ≤ bt s (i : Int) ∧ bt s (i : Int) ≤ 126) → isW s = false := fun hn => decide_eq_false (fun k => hn (k.2.2 i (by omega)))
    by_cases c1 : bt s (i : Int) < 33
    · refine Ev.step (f := fun _ => some (isW s)) (fun k => ?_) (Ev.now _)
      rw [voice_isCaller.l0, if_pos (by omega), if_pos (by omega), if_pos (by omega), if_pos c1, hf (by omega)]
    by_cases c2 : bt s (i : Int) > 126
    · refine Ev.step (f := fun _ => some (isW s)) (fun k => ?_) (Ev.now _)
      rw [voice_isCaller.l0, if_pos (by omega), if_pos (by omega), if_pos (by omega), if_neg c1, if_pos c2, hf (by omega)]
    refine Ev.step (f := fun k => voice_isCaller.l0 k s (s.size : Int) ((i + 1 : Nat) : Int)) (fun k => ?_) (isC_from s hs d (i + 1) (by omega) (fun j hj => ?_))
    · rw [voice_isCaller.l0, if_pos (by omega), if_pos (by omega), if_pos (by omega), if_neg c1, if_neg c2, w64 (by omega) (by omega)]; rfl
    · by_cases e : j < i
      · exact ha j e
      · obtain rfl : j = i := by omega
        omega
theorem isC_ev (s : ByteArray) (hs : s.size ≤ 9223372036854775806) : Ev (fun k => voice_isCaller.f k s) (isW s) := isC_from s hs s.size 0 (by omega) (fun j hj => by omega)
theorem isR_from (s : ByteArray) (hs : s.size ≤ 16) (h1 : 1 ≤ s.size) : ∀ (d i : Nat), i + d = s.size → (∀ j : Nat, j < i → 33 ≤ bt s (j : Int) ∧ bt s (j : Int) ≤ 126) → Ev (fun k => wireglassref25_isWord.l0 k s (i : Int)) (isW s)
  | 0, i, h, ha => by
    have hall : allW s := fun j hj => ha j (by omega)
    refine Ev.step (f := fun _ => some (isW s)) (fun k => ?_) (Ev.now _)
    rw [wireglassref25_isWord.l0, if_neg (by omega)]
    congr 1
    unfold isW
    rw [decide_eq_true ⟨h1, hs, hall⟩]
  | d + 1, i, h, ha => by
    have hf : ¬ (33 ≤ bt s (i : Int) ∧ bt s (i : Int) ≤ 126) → isW s = false := fun hn => decide_eq_false (fun k => hn (k.2.2 i (by omega)))
    by_cases c1 : bt s (i : Int) < 33
    · refine Ev.step (f := fun _ => some (isW s)) (fun k => ?_) (Ev.now _)
      rw [wireglassref25_isWord.l0, if_pos (by omega), if_pos (by omega), if_pos c1, hf (by omega)]
    by_cases c2 : bt s (i : Int) > 126
    · refine Ev.step (f := fun _ => some (isW s)) (fun k => ?_) (Ev.now _)
      rw [wireglassref25_isWord.l0, if_pos (by omega), if_pos (by omega), if_neg c1, if_pos c2, hf (by omega)]
    refine Ev.step (f := fun k => wireglassref25_isWord.l0 k s ((i + 1 : Nat) : Int)) (fun k => ?_) (isR_from s hs h1 d (i + 1) (by omega) (fun j hj => ?_))
    · rw [wireglassref25_isWord.l0, if_pos (by omega), if_pos (by omega), if_neg c1, if_neg c2, w64 (by omega) (by omega)]; rfl
    · by_cases e : j < i
      · exact ha j e
      · obtain rfl : j = i := by omega
        omega
theorem isR_ev (s : ByteArray) : Ev (fun k => wireglassref25_isWord.f k s) (isW s) := by
  unfold wireglassref25_isWord.f
  by_cases c1 : (s.size : Int) < 1
  · refine Ev.if_pos c1 (Ev.step (f := fun _ => some (isW s)) (fun k => ?_) (Ev.now _))
    rw [wireglassref25_isWord.j0, if_pos rfl, show isW s = false from decide_eq_false (by omega)]
  refine Ev.if_neg c1 ?_
  by_cases c2 : (s.size : Int) > 16
  · rw [decide_eq_true c2]
    refine Ev.step (f := fun _ => some (isW s)) (fun k => ?_) (Ev.now _)
    rw [wireglassref25_isWord.j0, if_pos rfl, show isW s = false from decide_eq_false (by omega)]
  · rw [decide_eq_false c2]
    refine Ev.step (f := fun k => wireglassref25_isWord.l0 k s ((0 : Nat) : Int)) (fun k => ?_) (isR_from s (by omega) (by omega) s.size 0 (by omega) (fun j hj => by omega))
    rw [wireglassref25_isWord.j0, if_neg (by simp)]; rfl
abbrev TA := S25
/-- An act that may be. -/
def okA (x : TA) : Bool := decide (0 ≤ x.f0 ∧ x.f0 ≤ 5 ∧ 0 ≤ x.f1 ∧ x.f1 ≤ 4503599627370496 ∧ 0 ≤ x.f2 ∧ x.f2 ≤ 4503599627370496 ∧ (x.f0 = 0 → isW x.f4 = true))
def newC (x : TA) : TS := if x.f0 = 0 then ⟨x.f1, x.f4, sNew, 0⟩ else ⟨x.f1, ⟨#[63]⟩, sOdd, 0⟩
/-- The calls behind an act. -/
def stepC (L : List TS) (x : TA) : List TS := if idx L x.f1 0 < 0 then L ++ [newC x] else L.set (idx L x.f1 0).toNat (takeC x.f0 x.f2 (L.getD (idx L x.f1 0).toNat ⟨0, ⟨#[]⟩, ⟨#[]⟩, 0⟩))
def itoaB (n : Int) : ByteArray := ⟨(Lib.itoa n).toArray⟩
def sp1 : ByteArray := ⟨#[32]⟩
def lineC (y : TS) : ByteArray := ((((((itoaB y.f0) ++ sp1) ++ y.f1) ++ sp1) ++ y.f2) ++ sp1) ++ itoaB y.f3
def callsP (l : List TA) : List ByteArray × Int := if (l.length : Int) > 200 then ([], 3) else if l.all okA = true then ((l.foldl stepC []).map lineC, 0) else ([], 1)
theorem idx_range : ∀ (L : List TS) (a i : Int), 0 ≤ i → idx L a i = -1 ∨ (i ≤ idx L a i ∧ idx L a i < i + L.length)
  | [], a, i, h => .inl rfl
  | y :: r, a, i, h => by
    rw [idx]
    by_cases c : y.f0 = a
    · rw [if_pos c, List.length_cons]; right; omega
    · rw [if_neg c, List.length_cons]
      rcases idx_range r a (i + 1) (by omega) with h1 | ⟨h1, h2⟩
      · exact .inl h1
      · right; omega
theorem idx_at : ∀ (L : List TS) (a i : Int) (j : Nat) (hj : j < L.length), 0 ≤ i → idx L a i = i + j → (L[j]).f0 = a
  | [], a, i, j, hj, h, e => by simp at hj
  | y :: r, a, i, j, hj, h, e => by
    rw [idx] at e
    by_cases c : y.f0 = a
    · rw [if_pos c] at e
      have : j = 0 := by omega
      subst this
      exact c
    · rw [if_neg c] at e
      cases j with
      | zero => rcases idx_range r a (i + 1) (by omega) with h1 | ⟨h1, h2⟩ <;> omega
      | succ j => exact idx_at r a (i + 1) j (by simpa using hj) (by omega) (by push_cast at e ⊢; omega)
/-- What is so of the calls behind i acts. -/
structure InvC (i : Nat) (L : List TS) : Prop where
  len : L.length ≤ i
  all : ∀ y ∈ L, 0 ≤ y.f0 ∧ y.f0 ≤ 4503599627370496 ∧ y.f1.size ≤ 16 ∧ y.f2.size ≤ 7 ∧ 0 ≤ y.f3 ∧ y.f3 ≤ i * 4503599627370496
theorem toOf_size {op : Int} {s t : ByteArray} (h : toOf op s = some t) : t.size ≤ 7 := by
  unfold toOf at h
  repeat' split at h
  all_goals first | cases h; done | (cases h; decide)
theorem InvC.step {i : Nat} {L : List TS} (h : InvC i L) {x : TA} (hx : okA x = true) : InvC (i + 1) (stepC L x) := by
  have hx := of_decide_eq_true hx
  obtain ⟨x0, x1, x2, x3, x4, x5, x6⟩ := hx
  have up : ∀ y : TS, y.f3 ≤ i * 4503599627370496 → y.f3 ≤ ((i + 1 : Nat) : Int) * 4503599627370496 := fun y hy => by push_cast; omega
  unfold stepC
  by_cases c : idx L x.f1 0 < 0
  · rw [if_pos c]
    refine ⟨by rw [List.length_append, List.length_singleton]; have := h.len; omega, fun y hy => ?_⟩
    rcases List.mem_append.1 hy with hy | hy
    · obtain ⟨a1, a2, a3, a4, a5, a6⟩ := h.all y hy
      exact ⟨a1, a2, a3, a4, a5, up y a6⟩
    · rw [List.mem_singleton.1 hy]
      unfold newC
      by_cases e : x.f0 = 0
      · rw [if_pos e]
        have := of_decide_eq_true (x6 e)
        exact ⟨x2, x3, this.2.1, (by decide : sNew.size ≤ 7), Int.le_refl 0, by dsimp only; omega⟩
      · rw [if_neg e]
        exact ⟨x2, x3, (by decide : (⟨#[63]⟩ : ByteArray).size ≤ 16), (by decide : sOdd.size ≤ 7), Int.le_refl 0, by dsimp only; omega⟩
  · rw [if_neg c]
    rcases idx_range L x.f1 0 (by omega) with h1 | ⟨h1, h2⟩
    · omega
    refine ⟨by rw [List.length_set]; have := h.len; omega, fun y hy => ?_⟩
    rcases List.mem_or_eq_of_mem_set hy with hy | hy
    · obtain ⟨a1, a2, a3, a4, a5, a6⟩ := h.all y hy
      exact ⟨a1, a2, a3, a4, a5, up y a6⟩
    · have hj : (idx L x.f1 0).toNat < L.length := by omega
      have hm : L.getD (idx L x.f1 0).toNat ⟨0, ⟨#[]⟩, ⟨#[]⟩, 0⟩ ∈ L := by
        rw [List.getD_eq_getElem?_getD, List.getElem?_eq_getElem hj]
        exact List.getElem_mem hj
      rw [hy]
      obtain ⟨a1, a2, a3, a4, a5, a6⟩ := h.all _ hm
      generalize L.getD (idx L x.f1 0).toNat ⟨0, ⟨#[]⟩, ⟨#[]⟩, 0⟩ = z at a1 a2 a3 a4 a5 a6 ⊢
      unfold takeC
      refine ⟨a1, a2, a3, ?_, ?_, ?_⟩
      · dsimp only
        cases e : toOf x.f0 z.f2 with
        | none => exact a4
        | some t => exact toOf_size e
      · dsimp only
        split <;> omega
      · dsimp only
        push_cast
        split <;> omega
end Go.Proofs.YtbloalfgbpgepaaDoor.T
