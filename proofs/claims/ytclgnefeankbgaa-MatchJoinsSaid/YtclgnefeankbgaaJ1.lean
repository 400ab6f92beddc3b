/- A list of just the places that are marked: the walk; rows of marks. Conditions: as each theorem says. -/
import Derived.Test.YtclgnefeankbgaaM49
import Derived.Test.YtclgnefeankbgaaP6
namespace Go.Proofs.Ytclgnefeankbgaa.M
open Go Go.RowKit Go.Proofs.YtclgnefeankbgaaW.PrintWords Go.Proofs.YtclgnefeankbgaaW.PrintLast Go.Proofs.YtclgnefeankbgaaW.PrintMore Hand
attribute [local go_sem] Oper.semAt_some max2_int min2_int max_two min_two max_three min_three max_four min_four
set_option linter.unusedVariables false
set_option linter.unusedSimpArgs false
/-- The places that are marked, from a place on. -/
def marksF : List Bool → Nat → List Int
  | [], i => []
  | b :: c, i => if b = true then (i : Int) :: marksF c (i + 1) else marksF c (i + 1)
theorem marksF_ends : ∀ (c : List Bool) (i : Nat), EndsOf (fun j => i ≤ j ∧ c[j - i]? = some true) (marksF c i)
  | [], i => ⟨List.Pairwise.nil, fun e => ⟨fun h => (by cases h), fun ⟨j, _, _, h⟩ => (by simp at h)⟩⟩
  | b :: c, i => by
    have ih := marksF_ends c (i + 1)
    have hstep : ∀ j, i ≤ j → ((b :: c)[j - i]? = some true ↔ (j = i ∧ b = true) ∨ (i + 1 ≤ j ∧ c[j - (i + 1)]? = some true)) := fun j hj => by
      by_cases e : j = i
      · subst e
        rw [Nat.sub_self]
        simp
        intro h; omega
      · obtain ⟨m, rfl⟩ : ∃ m, j = i + 1 + m := ⟨j - i - 1, by omega⟩
        have e1 : i + 1 + m - i = m + 1 := by omega
        have e2 : i + 1 + m - (i + 1) = m := by omega
        rw [e1, e2]
        simp
        intro h; omega
    rw [marksF]
    by_cases hb : b = true
    · rw [if_pos hb]
      refine ⟨List.pairwise_cons.2 ⟨fun y hy => ?_, ih.ord⟩, fun e => ?_⟩
      · obtain ⟨j, rfl, hj, _⟩ := (ih.mem y).1 hy
        omega
      · rw [List.mem_cons, ih.mem]
        constructor
        · rintro (rfl | ⟨j, rfl, hj, h⟩)
          · exact ⟨i, rfl, Nat.le_refl _, (hstep i (Nat.le_refl _)).2 (.inl ⟨rfl, hb⟩)⟩
          · exact ⟨j, rfl, by omega, (hstep j (by omega)).2 (.inr ⟨hj, h⟩)⟩
        · rintro ⟨j, rfl, hj, h⟩
          rcases (hstep j hj).1 h with ⟨rfl, _⟩ | ⟨h1, h2⟩
          · exact .inl rfl
          · exact .inr ⟨j, rfl, h1, h2⟩
    · rw [if_neg hb]
      refine ⟨ih.ord, fun e => (ih.mem e).trans ?_⟩
      constructor
      · rintro ⟨j, rfl, hj, h⟩; exact ⟨j, rfl, by omega, (hstep j (by omega)).2 (.inr ⟨hj, h⟩)⟩
      · rintro ⟨j, rfl, hj, h⟩
        rcases (hstep j hj).1 h with ⟨_, h1⟩ | ⟨h1, h2⟩
        · exact absurd h1 hb
        · exact ⟨j, rfl, h1, h2⟩
theorem marks_of {c : List Bool} {P : Nat → Prop} {l : List Int} (h : EndsOf P l) (hP : ∀ j, P j ↔ c[j]? = some true) : l = marksF c 0 :=
  h.unique (marksF_ends c 0) fun j => by
    rw [hP]
    simp
/-- A row of marks at a block. -/
def BRow (w : World) (g : Nat) (c : List Bool) : Prop := w.heap[g]? = some (.cells (boolsV c) 4 (0, 0))
theorem BRow.cell {W : World} {g : Nat} {c : List Bool} (h : BRow W g c) {k : Nat} {b : Bool} (hk : c[k]? = some b) : W.cell? ⟨g, k, none⟩ = some (.bool b) := by
  rw [blk_cell h k]
  unfold boolsV
  simp [hk]
theorem BRow.put {W : World} {g : Nat} {c : List Bool} (h : BRow W g c) (k : Nat) (b : Bool) : BRow (W.setCell ⟨g, k, none⟩ (.bool b)) g (c.set k b) := by
  refine (blk_set h k _).trans ?_
  have e : (boolsV c).setIfInBounds k (.bool b) = boolsV (c.set k b) := by
    unfold boolsV
    simp [List.map_set]
  rw [e]
theorem BRow.call {W W' : World} {g : Nat} {c : List Bool} (h : BRow W g c) (hb : Below W.heap.size W W') : BRow W' g c := (hb.block g (blk_lt h)).trans h
theorem BRow.far {W W' : World} {g : Nat} {c : List Bool} (h : BRow W g c) (hk : W'.heap[g]? = W.heap[g]?) : BRow W' g c := hk.trans h
theorem BRow.of {w : World} {base n : Nat} {g : Nat} (h : w.ownsRow base 4 1 (.slice (some ⟨g, 0, none⟩) n n) n (madeCells (Value.bool false).cells (n * 1)).toList) : BRow w g (List.replicate n false) ∧ base ≤ g := by
  rcases h.2 with ⟨hn, _⟩ | ⟨g2, cap, cur, hv, hg, hh, h1, h2, h3, h4⟩
  · cases hn
  · cases hv
    refine ⟨?_, hg⟩
    have e : cur = boolsV (List.replicate n false) := by
      have h5 : (madeCells (Value.bool false).cells (n * 1)).toList = (boolsV (List.replicate n false)).toList := by
        rw [Nat.mul_one]
        unfold madeCells boolsV
        apply List.ext_getElem?
        intro i
        simp [Value.cells, List.getElem?_replicate]
        by_cases hi : i < n
        · rw [if_pos hi, List.getElem?_range hi]
          simp [Nat.mod_one]
        · rw [if_neg hi, List.getElem?_eq_none (by simp; omega)]
          rfl
      rw [h5] at h4
      have h6 : (boolsV (List.replicate n false)).toList.length = n := by unfold boolsV; simp
      apply Array.toList_inj.1
      rw [← h4, List.take_of_length_le]
      rw [Array.length_toList]
      omega
    unfold BRow
    rw [← e]
    exact hh
set_option maxHeartbeats 8000000 in
set_option maxRecDepth 100000 in
theorem set.calls (base : Nat) (gl : Option Nat) (cl L : Nat) (l : List Int) (g : Nat) (c : List Bool) (N cc : Nat) (W : World) (hl : l.length = L) (hr : RI W base (.slice (gl.map fun g => ⟨g, 0, none⟩) L cl) l) (hN : c.length = N) (hNb : N ≤ 1000) (hb : BRow W g c) (hm : l = marksF c 0) :
    Calls Try.prog 12 #[.slice (gl.map fun g => ⟨g, 0, none⟩) L cl, .slice (some ⟨g, 0, none⟩) N cc] W fun e w' => e = .returned (.bool true) ∧ Below W.heap.size W w' := by
  have HLL := Aside0.mk hl
  have HRI := Aside0.mk hr
  have HCN := Aside0.mk hN
  have HBR := Aside0.mk hb
  have H0 : Aside0 (l.drop 0 = marksF (c.drop 0) 0) := ⟨by rw [List.drop_zero, List.drop_zero]; exact hm⟩
  clear hl hr hN hb hm
  go_enter Try.func12, Try.ntmps12
  go_wp2
  go_loopg [5, 6] N (fun kq v5 v6 w' => ∃ k i : Nat, v5 = .int .i64 (k : Int) ∧ v6 = .int .i64 (i : Int) ∧ i + kq = N ∧ k ≤ L ∧ k ≤ i ∧ Aside0 (l.drop k = marksF (c.drop i) i) ∧ Aside0 (Below W.heap.size W w'))
  case atStart => exact ⟨0, 0, rfl, rfl, by omega, Nat.zero_le _, Nat.le_refl _, H0, ⟨Below.refl _ _⟩⟩
  case round =>
    clear H0
    obtain ⟨k, i, rfl, rfl, hik, hkL, hki, HD, HB⟩ := hrel
    cases gk with
    | zero =>
      have d1 : decide ((i : Int) < (N : Int)) = false := decide_eq_false (by omega)
      have d2 : decide (i < N) = false := decide_eq_false (by omega)
      have hd := HD.out
      have e : c.drop i = [] := List.drop_of_length_le (by rw [HCN.out]; omega)
      rw [e, marksF] at hd
      have hkk : k = L := by
        have := congrArg List.length hd
        rw [List.length_drop, HLL.out] at this
        simp at this
        omega
      have d3 : ((k : Int) == (L : Int)) = true := beq_iff_eq.2 (by omega)
      have d4 : (k == L) = true := beq_iff_eq.2 hkk
      clear hd e hkk hik HD
      go_wp2
      go_ret
      exact ⟨by first | rfl | simp [d3, d4], HB.out⟩
    | succ q =>
      have hiN : i < N := by omega
      have d1 : decide ((i : Int) < (N : Int)) = true := decide_eq_true (by omega)
      have d2 : decide (i < N) = true := decide_eq_true hiN
      have i0 : (0 : Int) ≤ (i : Int) := by omega
      have i1 : (i : Int) < (N : Int) := by omega
      have wi : IntKind.i64.wrap ((i : Int) + 1) = (i : Int) + 1 := by rw [IntKind.wrap_i64]; omega
      have wk : IntKind.i64.wrap ((k : Int) + 1) = (k : Int) + 1 := by rw [IntKind.wrap_i64]; omega
      have hil : i < c.length := by rw [HCN.out]; exact hiN
      obtain ⟨b, hb⟩ : ∃ b, c[i]? = some b := ⟨_, List.getElem?_eq_getElem hil⟩
      have y0 := (HBR.out.call HB.out).cell hb
      have hdc : c.drop i = b :: c.drop (i + 1) := by
        rw [List.drop_eq_getElem_cons hil]
        congr 1
        exact (List.getElem?_eq_some_iff.1 hb).2
      have hd := HD.out
      rw [hdc, marksF] at hd
      have hiq : i + 1 + q = N := by omega
      clear hdc hb HD
      cases b with
      | false =>
        rw [if_neg (by decide)] at hd
        have HD2 := Aside0.mk hd
        clear hd
        go_wp2
        go_roundg q
        case measure => omega
        case rel => exact ⟨k, i + 1, rfl, rfl, hiq, hkL, by omega, HD2, HB⟩
      | true =>
        rw [if_pos rfl] at hd
        have hk2 : k < L := by
          rcases Nat.lt_or_ge k L with h | h
          · exact h
          · rw [List.drop_of_length_le (by rw [HLL.out]; exact h)] at hd; cases hd
        have hkl : k < l.length := by rw [HLL.out]; exact hk2
        have hlk : l.drop k = l.getD k 0 :: l.drop (k + 1) := by
          rw [List.drop_eq_getElem_cons hkl, List.getD_eq_getElem?_getD, List.getElem?_eq_getElem hkl]
          rfl
        rw [hlk] at hd
        injection hd with e1 e2
        have HD2 := Aside0.mk e2
        obtain ⟨bl, hgl, y1⟩ := (HRI.out.call HB.out).cell hkl
        rw [e1] at y1
        have d3 : decide ((L : Int) ≤ (k : Int)) = false := decide_eq_false (by omega)
        have d4 : decide (L ≤ k) = false := decide_eq_false (by omega)
        have k0 : (0 : Int) ≤ (k : Int) := by omega
        have k1 : (k : Int) < (L : Int) := by omega
        subst hgl
        clear hlk e1 e2
        go_wp2
        go_roundg q
        case measure => omega
        case rel => exact ⟨k + 1, i + 1, rfl, rfl, hiq, by omega, by omega, HD2, HB⟩
end Go.Proofs.Ytclgnefeankbgaa.M
