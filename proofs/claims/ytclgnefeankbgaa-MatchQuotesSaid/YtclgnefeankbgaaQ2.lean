/- Quoting: the small functions walked. Conditions: as each theorem says. -/
import Derived.Test.YtclgnefeankbgaaM46
import Derived.Test.YtclgnefeankbgaaQ1
namespace Go.Proofs.Ytclgnefeankbgaa.M
open Go Go.RowKit Go.Proofs.YtclgnefeankbgaaW.PrintWords Go.Proofs.YtclgnefeankbgaaW.PrintLast Go.Proofs.YtclgnefeankbgaaW.PrintMore Hand
attribute [local go_sem] Oper.semAt_some max2_int min2_int max_two min_two max_three min_three max_four min_four
set_option linter.unusedVariables false
set_option linter.unusedSimpArgs false
def idxV : List Int → Int → Int → Int
  | [], _, _ => -1
  | y :: r, v, i => if v = y then i else idxV r v (i + 1)
theorem idxV_any : ∀ (l : List Int) (v i : Int), 0 ≤ i → decide (0 ≤ idxV l v i) = l.contains v
  | [], v, i, h => rfl
  | y :: r, v, i, h => by
    rw [idxV, List.contains_cons]
    by_cases c : v = y
    · rw [if_pos c, decide_eq_true h, c]; simp
    · rw [if_neg c, show (v == y) = false from beq_eq_false_iff_ne.2 c, Bool.false_or, idxV_any r v (i + 1) (by omega)]
set_option maxHeartbeats 4000000 in
set_option maxRecDepth 100000 in
theorem bindex.calls (A0 : Option Addr) (n c0 : Nat) (l : List Int) (v : Int) (w : World) (hl : l.length = n) (hr0 : Kd.C (Kd.int .u8) w A0 l.length l) (hn : n ≤ 1000000) :
    Calls Try.prog 62 #[.slice A0 n c0, .int .u8 v] w fun e w' => e = .returned (.int .i64 (idxV l v 0)) ∧ w' = w := by
  have HR0 := Aside0.mk hr0
  have HLL := Aside0.mk hl
  clear hr0 hl
  obtain ⟨R, hR⟩ : ∃ R, idxV l v 0 = R := ⟨_, rfl⟩
  rw [hR]
  have H' := Aside0.mk hR
  clear hR
  go_enter Try.func62, Try.ntmps62
  go_wp2
  go_loopg [8] n (fun kq v8 w' => ∃ i : Nat, v8 = .int .i64 (i : Int) ∧ i + kq = n ∧ Aside0 (idxV (l.drop i) v (i : Int) = R) ∧ w' = w)
  case atStart => exact ⟨0, rfl, by omega, H', rfl⟩
  case round =>
    clear H'
    obtain ⟨i, rfl, hk, HA, rfl⟩ := hrel
    cases gk with
    | zero =>
      have e1 : decide ((i : Int) < (n : Int)) = false := decide_eq_false (by omega)
      have e2 : decide (i < n) = false := decide_eq_false (by omega)
      have hA := HA.out
      rw [List.drop_of_length_le (by rw [HLL.out]; omega), idxV] at hA
      subst hA
      go_wp2
      go_ret
      exact ⟨rfl, rfl⟩
    | succ q =>
      have c1 : i < n := by omega
      have e1 : decide ((i : Int) < (n : Int)) = true := decide_eq_true (by omega)
      have e2 : decide (i < n) = true := decide_eq_true c1
      have hiL : i < l.length := by rw [HLL.out]; exact c1
      obtain ⟨ad, e, y0⟩ := byteC HR0.out hiL
      subst e
      have i0 : (0 : Int) ≤ (i : Int) := by omega
      have i1 : (i : Int) < (n : Int) := by omega
      have hd : l.drop i = l.getD i 0 :: l.drop (i + 1) := by
        rw [List.drop_eq_getElem_cons hiL, List.getD_eq_getElem?_getD, List.getElem?_eq_getElem hiL]
        rfl
      obtain ⟨y, hy⟩ : ∃ y, l.getD i 0 = y := ⟨_, rfl⟩
      have hA := HA.out
      rw [hd, idxV, hy] at hA
      rw [hy] at y0
      have wi : IntKind.i64.wrap ((i : Int) + 1) = (i : Int) + 1 := by rw [IntKind.wrap_i64]; omega
      by_cases cm : v = y
      · rw [if_pos cm] at hA
        subst hA
        have g1 : (v == y) = true := beq_iff_eq.2 cm
        clear hd hy HA cm
        go_wp2
        go_ret
        exact ⟨rfl, rfl⟩
      · rw [if_neg cm] at hA
        have HA2 : Aside0 (idxV (l.drop (i + 1)) v ((i + 1 : Nat) : Int) = R) := ⟨hA⟩
        have g1 : (v == y) = false := beq_eq_false_iff_ne.2 cm
        clear hd hy HA cm hA
        go_wp2
        go_roundg q
        case measure => omega
        case rel => exact ⟨i + 1, rfl, by omega, HA2, rfl⟩
set_option maxHeartbeats 4000000 in
set_option maxRecDepth 100000 in
theorem bcontains.calls (A0 : Option Addr) (n c0 : Nat) (l : List Int) (v : Int) (w : World) (hl : l.length = n) (hr0 : Kd.C (Kd.int .u8) w A0 l.length l) (hn : n ≤ 1000000) :
    Calls Try.prog 45 #[.slice A0 n c0, .int .u8 v] w fun e w' => e = .returned (.bool (l.contains v)) ∧ w' = w := by
  have hc := bindex.calls A0 n c0 l v w hl hr0 hn
  rw [← idxV_any l v 0 (Int.le_refl 0)]
  obtain ⟨R, hR⟩ : ∃ R, idxV l v 0 = R := ⟨_, rfl⟩
  rw [hR] at hc ⊢
  have HC := Aside0.mk hc
  clear hc hr0 hR
  by_cases c : 0 ≤ R
  · have d1 : decide (0 ≤ R) = true := decide_eq_true c
    rw [d1]
    go_enter Try.func45, Try.ntmps45
    go_wp2_with (go_at_call 62; (with_reducible refine HC.out.mono ?_); rintro e w1 ⟨rfl, rfl⟩)
    go_ret
    exact ⟨rfl, rfl⟩
  · have d1 : decide (0 ≤ R) = false := decide_eq_false c
    rw [d1]
    go_enter Try.func45, Try.ntmps45
    go_wp2_with (go_at_call 62; (with_reducible refine HC.out.mono ?_); rintro e w1 ⟨rfl, rfl⟩)
    go_ret
    exact ⟨rfl, rfl⟩
def specL : List Int := [92, 124, 42, 43, 63, 123, 125, 40, 41, 91, 93, 46, 94, 36]
theorem specL_has (b : Int) : specL.contains b = isSpec b := by
  unfold specL isSpec
  simp only [List.contains_cons, List.contains_nil, Bool.or_false]
  simp only [Bool.or_assoc]
set_option maxHeartbeats 8000000 in
set_option maxRecDepth 100000 in
theorem isSpecial.calls (b : Int) (w : World) : Calls Try.prog 46 #[.int .u8 b] w fun e w' => e = .returned (.bool (isSpec b)) ∧ w' = w := by
  obtain ⟨r, hr⟩ : ∃ r, isSpec b = r := ⟨_, rfl⟩
  rw [hr]
  unfold isSpec at hr
  by_cases c : b = 92 ∨ b = 124 ∨ b = 42 ∨ b = 43 ∨ b = 63 ∨ b = 123 ∨ b = 125 ∨ b = 40 ∨ b = 41 ∨ b = 91 ∨ b = 93 ∨ b = 46 ∨ b = 94 ∨ b = 36
  · have hr2 : r = true := by rw [← hr]; rcases c with rfl | rfl | rfl | rfl | rfl | rfl | rfl | rfl | rfl | rfl | rfl | rfl | rfl | rfl <;> rfl
    clear hr
    subst hr2
    rcases c with rfl | rfl | rfl | rfl | rfl | rfl | rfl | rfl | rfl | rfl | rfl | rfl | rfl | rfl
    all_goals (
      go_enter Try.func46, Try.ntmps46
      go_wp2
      go_ret
      exact ⟨rfl, rfl⟩)
  · have k1 : (b == 92) = false := beq_eq_false_iff_ne.2 (by omega)
    have k2 : (b == 124) = false := beq_eq_false_iff_ne.2 (by omega)
    have k3 : (b == 42) = false := beq_eq_false_iff_ne.2 (by omega)
    have k4 : (b == 43) = false := beq_eq_false_iff_ne.2 (by omega)
    have k5 : (b == 63) = false := beq_eq_false_iff_ne.2 (by omega)
    have k6 : (b == 123) = false := beq_eq_false_iff_ne.2 (by omega)
    have k7 : (b == 125) = false := beq_eq_false_iff_ne.2 (by omega)
    have k8 : (b == 40) = false := beq_eq_false_iff_ne.2 (by omega)
    have k9 : (b == 41) = false := beq_eq_false_iff_ne.2 (by omega)
    have k10 : (b == 91) = false := beq_eq_false_iff_ne.2 (by omega)
    have k11 : (b == 93) = false := beq_eq_false_iff_ne.2 (by omega)
    have k12 : (b == 46) = false := beq_eq_false_iff_ne.2 (by omega)
    have k13 : (b == 94) = false := beq_eq_false_iff_ne.2 (by omega)
    have k14 : (b == 36) = false := beq_eq_false_iff_ne.2 (by omega)
    have hr2 : r = false := by rw [← hr, k1, k2, k3, k4, k5, k6, k7, k8, k9, k10, k11, k12, k13, k14]; rfl
    clear hr c
    subst hr2
    go_enter Try.func46, Try.ntmps46
    go_wp2
    go_ret
    exact ⟨rfl, rfl⟩
set_option maxHeartbeats 4000000 in
set_option maxRecDepth 100000 in
/-- Whole: whether the bytes' end is among the ends. -/
theorem Whole.calls (pp : Nat) (s : ByteArray) (z : Int) (xs : List ST) (bk : Option Nat) (A : Option Addr) (c : Nat) (bs : List Int) (W : World) (hp : PT W pp s z xs bk) (hb : BY W A bs) :
    Calls Try.prog 19 #[.pointer (some ⟨pp, 0, none⟩), .slice A bs.length c] W fun e w' => e = .returned (.bool (decide ((bs.length : Int) ∈ endsP xs bs 0))) ∧ Below W.heap.size W w' := by
  have he : Calls Try.prog 11 #[.pointer (some ⟨pp, 0, none⟩), .slice A bs.length c, .int .i64 0] W fun e w' => ∃ v, e = .returned v ∧ RI w' W.heap.size v (endsP xs bs 0) ∧ Below W.heap.size W w' := by
    have h := Ends.calls pp s z xs bk A c bs 0 W hp hb
    have e : endsI xs bs 0 = endsP xs bs 0 := by
      unfold endsI
      rw [if_pos (by omega)]
      rfl
    rw [e] at h
    exact h
  have hlb := endsP_len xs bs 0
  have hbl := hb.len
  obtain ⟨l, hl⟩ : ∃ l, endsP xs bs 0 = l := ⟨_, rfl⟩
  rw [hl] at he hlb ⊢
  obtain ⟨N, hN⟩ : ∃ N, bs.length = N := ⟨_, rfl⟩
  rw [hN] at he hlb hbl ⊢
  have HE := Aside0.mk he
  have HLB := Aside0.mk hlb
  have hcont : ∀ (v : Value) (w : World), RI w W.heap.size v l → Calls Try.prog 43 #[v, .int .i64 (N : Int)] w fun e w' => e = .returned (.bool (decide ((N : Int) ∈ l))) ∧ w' = w := fun v w hr => by
    obtain ⟨g, cc, hv, _, hcell⟩ := hr.at_
    subst hv
    cases g with
    | none =>
      have h0 : l.length = 0 := by
        rcases Nat.eq_zero_or_pos l.length with h | h
        · exact h
        · obtain ⟨b, hb, _⟩ := hcell 0 h; cases hb
      have e : l = [] := List.eq_nil_of_length_eq_zero h0
      rw [h0, e]
      have := Try.slices_Contains_int_empty none cc (N : Int) w
      simpa using this
    | some b =>
      have := Try.slices_Contains_int b 0 l.length cc l (N : Int) w (Nat.le_refl _) (by omega) (fun j hj => by
        obtain ⟨b', hb', hc⟩ := hcell j hj
        cases hb'
        rw [Nat.zero_add]
        exact hc)
      rw [List.take_length] at this
      have e : l.contains (N : Int) = decide ((N : Int) ∈ l) := by rw [Bool.eq_iff_iff]; simp
      rw [e] at this
      exact this
  have HC := Aside0.mk hcont
  clear he hp hb hl hN hcont hlb
  go_enter Try.func19, Try.ntmps19
  go_wp2_with (first
    | (go_at_call 43; (with_reducible refine (HC.out _ _ HR.out).mono ?_); rintro e w3 ⟨rfl, rfl⟩)
    | (go_at_call 11; (with_reducible refine HE.out.mono ?_); rintro e w2 ⟨v, rfl, hr, hb⟩; have HR := Aside0.mk hr; have HB := Aside0.mk hb; clear hr hb))
  go_ret
  exact ⟨rfl, HB.out⟩
end Go.Proofs.Ytclgnefeankbgaa.M
