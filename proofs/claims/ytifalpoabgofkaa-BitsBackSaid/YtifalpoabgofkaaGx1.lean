/- Laid by a program of this repo over the translation: each Go function as a plain Lean function with the proof that the call comes to its answers, or a statement's row out of these; conditions: the hypotheses of each theorem. -/
import Derived.Test.YtifalpoabgofkaaGx0
namespace Go.Proofs.Ytifalpoabgofkaa.G
open Go.RowKit Go.Proofs.YtifalpoabgofkaaW.PrintWords Go.Proofs.YtifalpoabgofkaaW.PrintLast Go.Proofs.YtifalpoabgofkaaW.PrintMore
attribute [local go_sem] max2_int min2_int max_two min_two max_three min_three max_four min_four   -- for this text's walks alone
set_option linter.unusedVariables false
set_option linter.unusedSimpArgs false

/-! ### bits_asked: function 34 -/
def bits_asked.j0 : Nat → List Int → Int → Int → Bool → Option (Int)
  | 0, _, _, _, _ => none
  | k + 1, x0, x1, x2, x31 => if x31 = true then (some 1) else (if x2 > (wrap64 (8 * (x0.length : Int))) then (some 4) else (if x1 > (wrap64 ((wrap64 (8 * (x0.length : Int))) - x2)) then (some 4) else (some 0)))
def bits_asked.f (k : Nat) (l0 : List Int) (a1 : Int) (a2 : Int) (a3 : Bool) : Option (Int) := if a2 < 0 then (bits_asked.j0 k l0 a1 a2 true) else (if a2 > 48 then (bits_asked.j0 k l0 a1 a2 true) else (if a1 < 0 then (bits_asked.j0 k l0 a1 a2 true) else (if a3 = true then (if (Int.tmod a2 8) = 0 then (bits_asked.j0 k l0 a1 a2 ((Int.tmod a1 8) != 0)) else (bits_asked.j0 k l0 a1 a2 true)) else (bits_asked.j0 k l0 a1 a2 false))))
theorem bits_asked.mono_l : ∀ k, (∀ y0 y1 y2 y3, LeO (bits_asked.j0 k y0 y1 y2 y3) (bits_asked.j0 (k + 1) y0 y1 y2 y3))
  | 0 => fun _ _ _ _ r h => by simp [bits_asked.j0] at h
  | k + 1 => by
    have ih0 := bits_asked.mono_l k
    · intro y0 y1 y2 y3
      unfold bits_asked.j0
      repeat' first
      | (with_reducible exact ih0 _ _ _ _)
      | (with_reducible exact LeO.refl _)
      | (with_reducible exact LeO.none _)
      | (with_reducible refine LeO.ite ?_ ?_)
      | (with_reducible refine LeO.bind ?_ (fun _ => ?_))
      | exact ih0 _ _ _ _
      | exact LeO.none _
      | refine LeO.ite ?_ ?_
      | refine LeO.bind ?_ (fun _ => ?_)
theorem bits_asked.mono : ∀ a0 a1 a2 a3 k, LeO (bits_asked.f k a0 a1 a2 a3) (bits_asked.f (k + 1) a0 a1 a2 a3) := by
  intro a0 a1 a2 a3 k
  have ih0 := bits_asked.mono_l k
  unfold bits_asked.f
  repeat' first
      | (with_reducible exact ih0 _ _ _ _)
      | (with_reducible exact LeO.refl _)
      | (with_reducible exact LeO.none _)
      | (with_reducible refine LeO.ite ?_ ?_)
      | (with_reducible refine LeO.bind ?_ (fun _ => ?_))
      | exact ih0 _ _ _ _
      | exact LeO.none _
      | refine LeO.ite ?_ ?_
      | refine LeO.bind ?_ (fun _ => ?_)
set_option maxHeartbeats 8000000 in
set_option maxRecDepth 100000 in
theorem bits_asked.calls (k : Nat) (A0 : Option Addr) (c0 : Nat) (l0 : List Int) (a1 : Int) (a2 : Int) (a3 : Bool) (r : Int) (w : World) (hr0 : Kd.C (Kd.int .u8) w A0 l0.length l0) (hc0 : l0.length ≤ c0) (h : bits_asked.f k l0 a1 a2 a3 = some r) :
    Calls Try.prog 34 #[.slice A0 l0.length c0, .int .i64 a1, .int .i64 a2, .bool a3] w fun e w' => e = .returned (.int .i64 r) ∧ Drawn0 w w' := by
  have HR0 := Aside0.mk hr0
  have HC0 := Aside0.mk hc0
  clear hr0 hc0
  have H : (if a2 < 0 then (bits_asked.j0 k l0 a1 a2 true) else (if a2 > 48 then (bits_asked.j0 k l0 a1 a2 true) else (if a1 < 0 then (bits_asked.j0 k l0 a1 a2 true) else (if a3 = true then (if (Int.tmod a2 8) = 0 then (bits_asked.j0 k l0 a1 a2 ((Int.tmod a1 8) != 0)) else (bits_asked.j0 k l0 a1 a2 true)) else (bits_asked.j0 k l0 a1 a2 false))))) = some r := h
  clear h
  have HC5 := Aside0.mk H
  clear H
  go_enter Try.func34, Try.ntmps34
  go_upto_region 1 with (fail)
  go_cut [31] (fun v31 wc => ∃ (kq : Nat) (x31_4 : Bool), v31 = .bool x31_4 ∧ Aside0 (bits_asked.j0 kq l0 a1 a2 x31_4 = some r) ∧ Aside0 (kq ≤ k) ∧ Drawn0 w wc)
  case first =>
    have H := HC5.out
    clear HC5
    by_cases c6 : a2 < 0
    · rw [if_pos c6] at H
      have c6b0 : decide (a2 < 0) = true := decide_eq_true c6
      clear c6
      (first | rw [c6b0] | (simp only [i64_w, i32_w]; rw [c6b0]) | skip)
      have H' := Aside0.mk H
      clear H
      go_wp2
      go_meet
      case rel => exact ⟨_, (true), (by first | rfl | (simp; done) | (simp [*]; done)), H', ⟨by first | omega | exact Nat.le_refl _⟩, by repeat (first | exact Drawn0.refl _ | apply Drawn0.step)⟩
    · rw [if_neg c6] at H
      have c6b0 : decide (a2 < 0) = false := decide_eq_false c6
      clear c6
      (first | rw [c6b0] | (simp only [i64_w, i32_w]; rw [c6b0]) | skip)
      by_cases c7 : a2 > 48
      · rw [if_pos c7] at H
        have c7b0 : decide (48 < a2) = true := decide_eq_true c7
        clear c7
        have H' := Aside0.mk H
        clear H
        go_wp2
        go_meet
        case rel => exact ⟨_, (true), (by first | rfl | (simp; done) | (simp [*]; done)), H', ⟨by first | omega | exact Nat.le_refl _⟩, by repeat (first | exact Drawn0.refl _ | apply Drawn0.step)⟩
      · rw [if_neg c7] at H
        have c7b0 : decide (48 < a2) = false := decide_eq_false c7
        clear c7
        by_cases c8 : a1 < 0
        · rw [if_pos c8] at H
          have c8b0 : decide (a1 < 0) = true := decide_eq_true c8
          clear c8
          have H' := Aside0.mk H
          clear H
          go_wp2
          go_meet
          case rel => exact ⟨_, (true), (by first | rfl | (simp; done) | (simp [*]; done)), H', ⟨by first | omega | exact Nat.le_refl _⟩, by repeat (first | exact Drawn0.refl _ | apply Drawn0.step)⟩
        · rw [if_neg c8] at H
          have c8b0 : decide (a1 < 0) = false := decide_eq_false c8
          clear c8
          by_cases c9 : a3 = true
          · subst c9
            have H1 : (if (Int.tmod a2 8) = 0 then (bits_asked.j0 k l0 a1 a2 ((Int.tmod a1 8) != 0)) else (bits_asked.j0 k l0 a1 a2 true)) = some r := by rw [if_pos rfl] at H; exact H
            clear H
            have H := H1
            clear H1
            by_cases c10 : (Int.tmod a2 8) = 0
            · rw [if_pos c10] at H
              have c10b0 : ((Int.tmod a2 8) == 0) = true := beq_iff_eq.mpr c10
              have c10b1 : ((Int.tmod a2 8) != 0) = false := bne_eq_false_iff_eq.mpr c10
              clear c10
              have H' := Aside0.mk H
              clear H
              go_wp2
              go_meet
              case rel => exact ⟨_, (((Int.tmod a1 8) != 0)), (by first | rfl | (simp; done) | (simp [*]; done)), H', ⟨by first | omega | exact Nat.le_refl _⟩, by repeat (first | exact Drawn0.refl _ | apply Drawn0.step)⟩
            · rw [if_neg c10] at H
              have c10b0 : ((Int.tmod a2 8) == 0) = false := beq_eq_false_iff_ne.mpr c10
              have c10b1 : ((Int.tmod a2 8) != 0) = true := bne_iff_ne.mpr c10
              have H' := Aside0.mk H
              clear H
              go_wp2
              go_meet
              case rel => exact ⟨_, (true), (by first | rfl | (simp; done) | (simp [*]; done)), H', ⟨by first | omega | exact Nat.le_refl _⟩, by repeat (first | exact Drawn0.refl _ | apply Drawn0.step)⟩
          · replace c9 := Bool.eq_false_iff.mpr c9
            subst c9
            have H1 : (bits_asked.j0 k l0 a1 a2 false) = some r := by rw [if_neg (show ¬ (false = true) by decide)] at H; exact H
            clear H
            have H := H1
            clear H1
            have H' := Aside0.mk H
            clear H
            go_wp2
            go_meet
            case rel => exact ⟨_, (false), (by first | rfl | (simp; done) | (simp [*]; done)), H', ⟨by first | omega | exact Nat.le_refl _⟩, by repeat (first | exact Drawn0.refl _ | apply Drawn0.step)⟩
  case rest =>
    clear HC5
    try clear c1
    try clear p2
    try clear c3
    try clear c6
    try clear c6b0
    try clear c7
    try clear c7b0
    try clear c8
    try clear c8b0
    try clear c9
    try clear c10
    try clear c10b0
    try clear c10b1
    obtain ⟨kq, x31_4, rfl, HA, HJ4, ⟨mc4, rfl⟩⟩ := hcut
    cases kq with
    | zero => exact absurd HA.out (by simp [bits_asked.j0])
    | succ kj4 =>
      have H := HA.out
      clear HA
      simp only [bits_asked.j0] at H
      by_cases c11 : x31_4 = true
      · subst c11
        have H1 : (some 1) = some r := by rw [if_pos rfl] at H; exact H
        clear H
        have H := H1
        clear H1
        obtain rfl := Option.some.inj H
        go_wp2
        go_ret
        exact ⟨by first | rfl | (simp; done) | (simp [*]; done), by repeat (first | exact Drawn0.refl _ | apply Drawn0.step)⟩
      · replace c11 := Bool.eq_false_iff.mpr c11
        subst c11
        have H1 : (if a2 > (wrap64 (8 * (l0.length : Int))) then (some 4) else (if a1 > (wrap64 ((wrap64 (8 * (l0.length : Int))) - a2)) then (some 4) else (some 0))) = some r := by rw [if_neg (show ¬ (false = true) by decide)] at H; exact H
        clear H
        have H := H1
        clear H1
        by_cases c12 : a2 > (wrap64 (8 * (l0.length : Int)))
        · rw [if_pos c12] at H
          have c12b0 : decide ((wrap64 (8 * (l0.length : Int))) < a2) = true := decide_eq_true c12
          clear c12
          obtain rfl := Option.some.inj H
          go_wp2
          go_ret
          exact ⟨by first | rfl | (simp; done) | (simp [*]; done), by repeat (first | exact Drawn0.refl _ | apply Drawn0.step)⟩
        · rw [if_neg c12] at H
          have c12b0 : decide ((wrap64 (8 * (l0.length : Int))) < a2) = false := decide_eq_false c12
          clear c12
          by_cases c13 : a1 > (wrap64 ((wrap64 (8 * (l0.length : Int))) - a2))
          · rw [if_pos c13] at H
            have c13b0 : decide ((wrap64 ((wrap64 (8 * (l0.length : Int))) - a2)) < a1) = true := decide_eq_true c13
            clear c13
            obtain rfl := Option.some.inj H
            go_wp2
            go_ret
            exact ⟨by first | rfl | (simp; done) | (simp [*]; done), by repeat (first | exact Drawn0.refl _ | apply Drawn0.step)⟩
          · rw [if_neg c13] at H
            have c13b0 : decide ((wrap64 ((wrap64 (8 * (l0.length : Int))) - a2)) < a1) = false := decide_eq_false c13
            clear c13
            obtain rfl := Option.some.inj H
            go_wp2
            go_ret
            exact ⟨by first | rfl | (simp; done) | (simp [*]; done), by repeat (first | exact Drawn0.refl _ | apply Drawn0.step)⟩

/-! ### bits_turned: function 35 -/
def bits_turned.l0 : Nat → Int → Int → Int → Int → Option (Int)
  | 0, _, _, _, _ => none
  | k + 1, x0, x5, x7, x8 => if x8 < x7 then (bits_turned.l0 k (x0 / 256) (Go.bits .or .i64 (wrap64 (x5 * 256)) (Go.bits .and .i64 x0 255)) x7 (wrap64 (x8 + 1))) else (some x5)
def bits_turned.f (k : Nat) (a0 : Int) (a1 : Int) : Option (Int) := bits_turned.l0 k a0 0 (wrap64 (Int.tdiv a1 8)) 0
theorem bits_turned.mono_l : ∀ k, (∀ y0 y1 y2 y3, LeO (bits_turned.l0 k y0 y1 y2 y3) (bits_turned.l0 (k + 1) y0 y1 y2 y3))
  | 0 => fun _ _ _ _ r h => by simp [bits_turned.l0] at h
  | k + 1 => by
    have ih0 := bits_turned.mono_l k
    · intro y0 y1 y2 y3
      unfold bits_turned.l0
      repeat' first
      | (with_reducible exact ih0 _ _ _ _)
      | (with_reducible exact LeO.refl _)
      | (with_reducible exact LeO.none _)
      | (with_reducible refine LeO.ite ?_ ?_)
      | (with_reducible refine LeO.bind ?_ (fun _ => ?_))
      | exact ih0 _ _ _ _
      | exact LeO.none _
      | refine LeO.ite ?_ ?_
      | refine LeO.bind ?_ (fun _ => ?_)
theorem bits_turned.mono : ∀ a0 a1 k, LeO (bits_turned.f k a0 a1) (bits_turned.f (k + 1) a0 a1) := by
  intro a0 a1 k
  have ih0 := bits_turned.mono_l k
  unfold bits_turned.f
  repeat' first
      | (with_reducible exact ih0 _ _ _ _)
      | (with_reducible exact LeO.refl _)
      | (with_reducible exact LeO.none _)
      | (with_reducible refine LeO.ite ?_ ?_)
      | (with_reducible refine LeO.bind ?_ (fun _ => ?_))
      | exact ih0 _ _ _ _
      | exact LeO.none _
      | refine LeO.ite ?_ ?_
      | refine LeO.bind ?_ (fun _ => ?_)
set_option maxHeartbeats 8000000 in
set_option maxRecDepth 100000 in
theorem bits_turned.calls (k : Nat) (a0 : Int) (a1 : Int) (r : Int) (w : World) (h : bits_turned.f k a0 a1 = some r) :
    Calls Try.prog 35 #[.int .i64 a0, .int .i64 a1] w fun e w' => e = .returned (.int .i64 r) ∧ Drawn0 w w' := by
  have H : (bits_turned.l0 k a0 0 (wrap64 (Int.tdiv a1 8)) 0) = some r := h
  clear h
  have H' := Aside0.mk H
  clear H
  go_enter Try.func35, Try.ntmps35
  go_wp2
  go_loopg [0, 5, 8] k (fun kq v0 v5 v8 w' => ∃ (x0_1 : Int) (x5_1 : Int) (x8_1 : Int), v0 = .int .i64 x0_1 ∧ v5 = .int .i64 x5_1 ∧ v8 = .int .i64 x8_1 ∧ Aside0 (bits_turned.l0 kq x0_1 x5_1 (wrap64 (Int.tdiv a1 8)) x8_1 = some r) ∧ Aside0 (kq ≤ k) ∧ Drawn0 w w')
  case atStart => exact ⟨(a0), (0), (0), (by first | rfl | (simp; done) | (simp [*]; done)), (by first | rfl | (simp; done) | (simp [*]; done)), (by first | rfl | (simp; done) | (simp [*]; done)), H', ⟨Nat.le_refl _⟩, by repeat (first | exact Drawn0.refl _ | apply Drawn0.step)⟩
  case round =>
    clear H'
    try clear p2
    obtain ⟨x0_1, x5_1, x8_1, rfl, rfl, rfl, HA, HK1, ⟨m1, rfl⟩⟩ := hrel
    cases gk with
    | zero => exact absurd HA.out (by simp [bits_turned.l0])
    | succ k1 =>
      have H := HA.out
      clear HA
      simp only [bits_turned.l0] at H
      by_cases c3 : x8_1 < (wrap64 (Int.tdiv a1 8))
      · rw [if_pos c3] at H
        have c3b0 : decide (x8_1 < (wrap64 (Int.tdiv a1 8))) = true := decide_eq_true c3
        clear c3
        have H' := Aside0.mk H
        clear H
        go_wp2
        go_roundg k1
        case measure => have := HK1.out; omega
        case rel => exact ⟨(x0_1 / 256), (Go.bits .or .i64 (wrap64 (x5_1 * 256)) (Go.bits .and .i64 x0_1 255)), (wrap64 (x8_1 + 1)), (by first | rfl | (simp; done) | (simp [*]; done)), (by first | rfl | (simp; done) | (simp [*]; done)), (by first | rfl | (simp; done) | (simp [*]; done)), H', ⟨by have := HK1.out; omega⟩, by repeat (first | exact Drawn0.refl _ | apply Drawn0.step)⟩
      · rw [if_neg c3] at H
        have c3b0 : decide (x8_1 < (wrap64 (Int.tdiv a1 8))) = false := decide_eq_false c3
        clear c3
        obtain rfl := Option.some.inj H
        go_wp2
        go_ret
        exact ⟨by first | rfl | (simp; done) | (simp [*]; done), by repeat (first | exact Drawn0.refl _ | apply Drawn0.step)⟩

/-! ### bits_Get: function 13 -/
def bits_Get.l0 : Nat → List Int → Int → Int → Bool → Int → Int → Option (Int × Int)
  | 0, _, _, _, _, _, _ => none
  | k + 1, x0, x1, x2, x3, x11, x12 => if x12 < (wrap64 (x1 + x2)) then (if 0 ≤ (wrap64 (Int.tdiv x12 8)) then (if (wrap64 (Int.tdiv x12 8)) < (x0.length : Int) then (if 0 ≤ (wrap64 (7 - (Int.tmod x12 8))) then (bits_Get.l0 k x0 x1 x2 x3 (Go.bits .or .i64 (wrap64 (x11 * 2)) (wrap64 (Go.bits .and .u8 (shr .u8 (rd x0 (wrap64 (Int.tdiv x12 8))) (wrap64 (7 - (Int.tmod x12 8)))) 1))) (wrap64 (x12 + 1))) else (none)) else (none)) else (none)) else (if x3 = true then ((bits_turned.f k x11 x2).bind fun t103 => (some (t103, 0))) else (some (x11, 0)))
def bits_Get.f (k : Nat) (l0 : List Int) (a1 : Int) (a2 : Int) (a3 : Bool) : Option (Int × Int) := (bits_asked.f k l0 a1 a2 a3).bind fun t101 => (if t101 = 0 then (bits_Get.l0 k l0 a1 a2 a3 0 a1) else (some (0, t101)))
theorem bits_Get.mono_l : ∀ k, (∀ y0 y1 y2 y3 y4 y5, LeO (bits_Get.l0 k y0 y1 y2 y3 y4 y5) (bits_Get.l0 (k + 1) y0 y1 y2 y3 y4 y5))
  | 0 => fun _ _ _ _ _ _ r h => by simp [bits_Get.l0] at h
  | k + 1 => by
    have ih0 := bits_Get.mono_l k
    · intro y0 y1 y2 y3 y4 y5
      unfold bits_Get.l0
      repeat' first
      | (with_reducible exact ih0 _ _ _ _ _ _)
      | (with_reducible exact bits_asked.mono _ _ _ _ _)
      | (with_reducible exact bits_turned.mono _ _ _)
      | (with_reducible exact LeO.refl _)
      | (with_reducible exact LeO.none _)
      | (with_reducible refine LeO.ite ?_ ?_)
      | (with_reducible refine LeO.bind ?_ (fun _ => ?_))
      | exact ih0 _ _ _ _ _ _
      | exact bits_asked.mono _ _ _ _ _
      | exact bits_turned.mono _ _ _
      | exact LeO.none _
      | refine LeO.ite ?_ ?_
      | refine LeO.bind ?_ (fun _ => ?_)
theorem bits_Get.mono : ∀ a0 a1 a2 a3 k, LeO (bits_Get.f k a0 a1 a2 a3) (bits_Get.f (k + 1) a0 a1 a2 a3) := by
  intro a0 a1 a2 a3 k
  have ih0 := bits_Get.mono_l k
  unfold bits_Get.f
  repeat' first
      | (with_reducible exact ih0 _ _ _ _ _ _)
      | (with_reducible exact bits_asked.mono _ _ _ _ _)
      | (with_reducible exact bits_turned.mono _ _ _)
      | (with_reducible exact LeO.refl _)
      | (with_reducible exact LeO.none _)
      | (with_reducible refine LeO.ite ?_ ?_)
      | (with_reducible refine LeO.bind ?_ (fun _ => ?_))
      | exact ih0 _ _ _ _ _ _
      | exact bits_asked.mono _ _ _ _ _
      | exact bits_turned.mono _ _ _
      | exact LeO.none _
      | refine LeO.ite ?_ ?_
      | refine LeO.bind ?_ (fun _ => ?_)
set_option maxHeartbeats 8000000 in
set_option maxRecDepth 100000 in
theorem bits_Get.calls (k : Nat) (A0 : Option Addr) (c0 : Nat) (l0 : List Int) (a1 : Int) (a2 : Int) (a3 : Bool) (r1 : Int) (r2 : Int) (w : World) (hr0 : Kd.C (Kd.int .u8) w A0 l0.length l0) (hc0 : l0.length ≤ c0) (h : bits_Get.f k l0 a1 a2 a3 = some (r1, r2)) :
    Calls Try.prog 13 #[.slice A0 l0.length c0, .int .i64 a1, .int .i64 a2, .bool a3] w fun e w' => e = .returned (.tuple #[.int .i64 r1, .int .i64 r2]) ∧ Drawn0 w w' := by
  have HR0 := Aside0.mk hr0
  have HC0 := Aside0.mk hc0
  clear hr0 hc0
  have H : ((bits_asked.f k l0 a1 a2 a3).bind fun t101 => (if t101 = 0 then (bits_Get.l0 k l0 a1 a2 a3 0 a1) else (some (0, t101)))) = some (r1, r2) := h
  clear h
  replace H := Option.bind_eq_some_iff.mp H
  obtain ⟨t101, A50, H⟩ := H
  replace H : (if t101 = 0 then (bits_Get.l0 k l0 a1 a2 a3 0 a1) else (some (0, t101))) = some (r1, r2) := H
  have A5 := Aside0.mk A50
  clear A50
  by_cases c6 : t101 = 0
  · rw [if_pos c6] at H
    have c6b0 : (t101 == 0) = true := beq_iff_eq.mpr c6
    have c6b1 : (t101 != 0) = false := bne_eq_false_iff_eq.mpr c6
    clear c6
    have H' := Aside0.mk H
    clear H
    go_enter Try.func13, Try.ntmps13
    go_wp2_with (first | ((with_reducible refine gate_callee (f := 34) rfl ?_); refine goesL_ (some 17) rfl rfl Try.func34 (by kernel_rfl) rfl #[.slice A0 l0.length c0, .int .i64 a1, .int .i64 a2, .bool a3] rfl (by (try simp only [List.map_toArray, List.map_cons, List.map_nil]); first | done | rfl | (simp only [List.length_drop, List.length_take]; rfl)) ?_; (with_reducible refine (bits_asked.calls k _ _ l0 a1 a2 a3 t101 _ ?side1 ?side2 A5.out).mono ?_); (case side1 => repeat (first | exact HR0.out | (with_reducible refine Kd.C_alloc ?_ _) | (with_reducible refine Kd.C_drewN ?_ _) | (with_reducible refine Kd.C_drew ?_))); (case side2 => exact HC0.out); rintro e w' ⟨rfl, ⟨nd, rfl⟩⟩; refine ⟨_, rfl, ?_⟩))
    go_loopg [11, 12] k (fun kq v11 v12 w' => ∃ (x11_1 : Int) (x12_1 : Int), v11 = .int .i64 x11_1 ∧ v12 = .int .i64 x12_1 ∧ Aside0 (bits_Get.l0 kq l0 a1 a2 a3 x11_1 x12_1 = some (r1, r2)) ∧ Aside0 (kq ≤ k) ∧ Drawn0 w w')
    case atStart => exact ⟨(0), (a1), (by first | rfl | (simp; done) | (simp [*]; done)), (by first | rfl | (simp; done) | (simp [*]; done)), H', ⟨Nat.le_refl _⟩, by repeat (first | exact Drawn0.refl _ | apply Drawn0.step)⟩
    case round =>
      clear H'
      try clear c1
      try clear p2
      try clear c3
      try clear c6
      try clear c6b0
      try clear c6b1
      obtain ⟨x11_1, x12_1, rfl, rfl, HA, HK1, ⟨m1, rfl⟩⟩ := hrel
      cases gk with
      | zero => exact absurd HA.out (by simp [bits_Get.l0])
      | succ k1 =>
        have H := HA.out
        clear HA
        simp only [bits_Get.l0] at H
        by_cases c7 : x12_1 < (wrap64 (a1 + a2))
        · rw [if_pos c7] at H
          have c7b0 : decide (x12_1 < (wrap64 (a1 + a2))) = true := decide_eq_true c7
          clear c7
          obtain ⟨ji8, hji8⟩ : ∃ j_ : Int, (wrap64 (Int.tdiv x12_1 8)) = j_ := ⟨_, rfl⟩
          replace H : (if 0 ≤ (ji8) then (if (ji8) < (l0.length : Int) then (if 0 ≤ (wrap64 (7 - (Int.tmod x12_1 8))) then (bits_Get.l0 k1 l0 a1 a2 a3 (Go.bits .or .i64 (wrap64 (x11_1 * 2)) (wrap64 (Go.bits .and .u8 (shr .u8 (rd l0 (ji8)) (wrap64 (7 - (Int.tmod x12_1 8)))) 1))) (wrap64 (x12_1 + 1))) else (none)) else (none)) else (none)) = some (r1, r2) := by first | (rw [hji8] at H; exact H) | (simp only [hji8] at H ⊢; exact H)
          have hji8w : (IntKind.i64.wrap (Int.tdiv x12_1 8)) = ji8 := (i64_w _).trans hji8
          by_cases c9 : 0 ≤ (ji8)
          · rw [if_pos c9] at H
            have c9b0 : decide (0 ≤ (ji8)) = true := decide_eq_true c9
            clear c9
            by_cases c10 : (ji8) < (l0.length : Int)
            · rw [if_pos c10] at H
              have c10b0 : decide ((ji8) < (l0.length : Int)) = true := decide_eq_true c10
              clear c10
              obtain ⟨ji11, hji11⟩ : ∃ j_ : Int, (wrap64 (7 - (Int.tmod x12_1 8))) = j_ := ⟨_, rfl⟩
              replace H : (if 0 ≤ (ji11) then (bits_Get.l0 k1 l0 a1 a2 a3 (Go.bits .or .i64 (wrap64 (x11_1 * 2)) (wrap64 (Go.bits .and .u8 (shr .u8 (rd l0 (ji8)) (ji11)) 1))) (wrap64 (x12_1 + 1))) else (none)) = some (r1, r2) := by first | (rw [hji11] at H; exact H) | (simp only [hji11] at H ⊢; exact H)
              have hji11w : (IntKind.i64.wrap (7 - (Int.tmod x12_1 8))) = ji11 := (i64_w _).trans hji11
              by_cases c12 : 0 ≤ (ji11)
              · rw [if_pos c12] at H
                have c12b0 := eq_true c12
                have c12b1 : decide (0 ≤ (ji11)) = true := decide_eq_true c12
                clear c12
                obtain ⟨ji13, hji13⟩ : ∃ j_ : Int, (shr .u8 (rd l0 (ji8)) (ji11)) = j_ := ⟨_, rfl⟩
                replace H : (bits_Get.l0 k1 l0 a1 a2 a3 (Go.bits .or .i64 (wrap64 (x11_1 * 2)) (wrap64 (Go.bits .and .u8 (ji13) 1))) (wrap64 (x12_1 + 1))) = some (r1, r2) := by first | (rw [hji13] at H; exact H) | (simp only [hji13] at H ⊢; exact H)
                have hji13_ : ((rd l0 (ji8)) / 2 ^ min (ji11).toNat 8) = ji13 := hji13
                have hji13z : (ji11) ≤ 8 → ((rd l0 (ji8)) / 2 ^ (ji11).toNat) = ji13 := shr_small hji13
                have H' := Aside0.mk H
                clear H
                have p102 : 0 ≤ ((ji8) : Int) := of_decide_eq_true (by first | (with_reducible assumption) | assumption)
                have q102 : (ji8) < (l0.length : Int) := of_decide_eq_true (by first | (with_reducible assumption) | assumption)
                obtain ⟨ad102, e102, hx102_0⟩ := Kd.at_int HR0.out (ji8) p102 q102
                cases e102
                replace p102 := eq_true p102
                replace q102 := eq_true q102
                go_wp2
                go_roundg k1
                case measure => have := HK1.out; omega
                case rel => exact ⟨(Go.bits .or .i64 (wrap64 (x11_1 * 2)) (wrap64 (Go.bits .and .u8 (ji13) 1))), (wrap64 (x12_1 + 1)), (by first | rfl | (simp; done) | (simp only [← hji13] <;> (first | rfl | simp)) | (simp [*]; done)), (by first | rfl | (simp; done) | (simp [*]; done)), H', ⟨by have := HK1.out; omega⟩, by repeat (first | exact Drawn0.refl _ | apply Drawn0.step)⟩
              · rw [if_neg c12] at H
                exact absurd H (by simp)
            · rw [if_neg c10] at H
              exact absurd H (by simp)
          · rw [if_neg c9] at H
            exact absurd H (by simp)
        · rw [if_neg c7] at H
          have c7b0 : decide (x12_1 < (wrap64 (a1 + a2))) = false := decide_eq_false c7
          clear c7
          by_cases c14 : a3 = true
          · subst c14
            have H1 : ((bits_turned.f k1 x11_1 a2).bind fun t103 => (some (t103, 0))) = some (r1, r2) := by rw [if_pos rfl] at H; exact H
            clear H
            have H := H1
            clear H1
            replace H := Option.bind_eq_some_iff.mp H
            obtain ⟨t103, A150, H⟩ := H
            replace H : (some (t103, 0)) = some (r1, r2) := H
            have A15 := Aside0.mk A150
            clear A150
            simp only [Option.some.injEq, Prod.mk.injEq] at H
            obtain ⟨rfl, rfl⟩ := H
            go_wp2_with (first | ((with_reducible refine gate_callee (f := 35) rfl ?_); refine goesL_ (some 46) rfl rfl Try.func35 (by kernel_rfl) rfl #[.int .i64 x11_1, .int .i64 a2] rfl (by (try simp only [List.map_toArray, List.map_cons, List.map_nil]); first | done | rfl | (simp only [List.length_drop, List.length_take]; rfl)) ?_; (with_reducible refine (bits_turned.calls k1 x11_1 a2 t103 _ A15.out).mono ?_); rintro e w' ⟨rfl, ⟨nd, rfl⟩⟩; refine ⟨_, rfl, ?_⟩))
            go_ret2
            exact ⟨by first | rfl | (simp; done) | (simp [*]; done), by repeat (first | exact Drawn0.refl _ | apply Drawn0.step)⟩
          · replace c14 := Bool.eq_false_iff.mpr c14
            subst c14
            have H1 : (some (x11_1, 0)) = some (r1, r2) := by rw [if_neg (show ¬ (false = true) by decide)] at H; exact H
            clear H
            have H := H1
            clear H1
            simp only [Option.some.injEq, Prod.mk.injEq] at H
            obtain ⟨rfl, rfl⟩ := H
            go_wp2
            go_ret2
            exact ⟨by first | rfl | (simp; done) | (simp [*]; done), by repeat (first | exact Drawn0.refl _ | apply Drawn0.step)⟩
  · rw [if_neg c6] at H
    have c6b0 : (t101 == 0) = false := beq_eq_false_iff_ne.mpr c6
    have c6b1 : (t101 != 0) = true := bne_iff_ne.mpr c6
    simp only [Option.some.injEq, Prod.mk.injEq] at H
    obtain ⟨rfl, rfl⟩ := H
    go_enter Try.func13, Try.ntmps13
    go_wp2_with (first | ((with_reducible refine gate_callee (f := 34) rfl ?_); refine goesL_ (some 17) rfl rfl Try.func34 (by kernel_rfl) rfl #[.slice A0 l0.length c0, .int .i64 a1, .int .i64 a2, .bool a3] rfl (by (try simp only [List.map_toArray, List.map_cons, List.map_nil]); first | done | rfl | (simp only [List.length_drop, List.length_take]; rfl)) ?_; (with_reducible refine (bits_asked.calls k _ _ l0 a1 a2 a3 t101 _ ?side1 ?side2 A5.out).mono ?_); (case side1 => repeat (first | exact HR0.out | (with_reducible refine Kd.C_alloc ?_ _) | (with_reducible refine Kd.C_drewN ?_ _) | (with_reducible refine Kd.C_drew ?_))); (case side2 => exact HC0.out); rintro e w' ⟨rfl, ⟨nd, rfl⟩⟩; refine ⟨_, rfl, ?_⟩))
    go_ret2
    exact ⟨by first | rfl | (simp; done) | (simp [*]; done), by repeat (first | exact Drawn0.refl _ | apply Drawn0.step)⟩

/-! ### bits_folded: function 39 -/
def bits_folded.l0 : Nat → Int → Option (Int)
  | 0, _ => none
  | k + 1, x0 => if x0 > 65535 then (bits_folded.l0 k (wrap64 ((x0 / 65536) + (Go.bits .and .i64 x0 65535)))) else (some x0)
def bits_folded.f (k : Nat) (a0 : Int) : Option (Int) := bits_folded.l0 k a0
theorem bits_folded.mono_l : ∀ k, (∀ y0, LeO (bits_folded.l0 k y0) (bits_folded.l0 (k + 1) y0))
  | 0 => fun _ r h => by simp [bits_folded.l0] at h
  | k + 1 => by
    have ih0 := bits_folded.mono_l k
    · intro y0
      unfold bits_folded.l0
      repeat' first
      | (with_reducible exact ih0 _)
      | (with_reducible exact LeO.refl _)
      | (with_reducible exact LeO.none _)
      | (with_reducible refine LeO.ite ?_ ?_)
      | (with_reducible refine LeO.bind ?_ (fun _ => ?_))
      | exact ih0 _
      | exact LeO.none _
      | refine LeO.ite ?_ ?_
      | refine LeO.bind ?_ (fun _ => ?_)
theorem bits_folded.mono : ∀ a0 k, LeO (bits_folded.f k a0) (bits_folded.f (k + 1) a0) := by
  intro a0 k
  have ih0 := bits_folded.mono_l k
  unfold bits_folded.f
  repeat' first
      | (with_reducible exact ih0 _)
      | (with_reducible exact LeO.refl _)
      | (with_reducible exact LeO.none _)
      | (with_reducible refine LeO.ite ?_ ?_)
      | (with_reducible refine LeO.bind ?_ (fun _ => ?_))
      | exact ih0 _
      | exact LeO.none _
      | refine LeO.ite ?_ ?_
      | refine LeO.bind ?_ (fun _ => ?_)
set_option maxHeartbeats 8000000 in
set_option maxRecDepth 100000 in
theorem bits_folded.calls (k : Nat) (a0 : Int) (r : Int) (w : World) (h : bits_folded.f k a0 = some r) :
    Calls Try.prog 39 #[.int .i64 a0] w fun e w' => e = .returned (.int .i64 r) ∧ Drawn0 w w' := by
  have H : (bits_folded.l0 k a0) = some r := h
  clear h
  have H' := Aside0.mk H
  clear H
  go_enter Try.func39, Try.ntmps39
  go_wp2
  go_loopg [0] k (fun kq v0 w' => ∃ (x0_1 : Int), v0 = .int .i64 x0_1 ∧ Aside0 (bits_folded.l0 kq x0_1 = some r) ∧ Aside0 (kq ≤ k) ∧ Drawn0 w w')
  case atStart => exact ⟨(a0), (by first | rfl | (simp; done) | (simp [*]; done)), H', ⟨Nat.le_refl _⟩, by repeat (first | exact Drawn0.refl _ | apply Drawn0.step)⟩
  case round =>
    clear H'
    obtain ⟨x0_1, rfl, HA, HK1, ⟨m1, rfl⟩⟩ := hrel
    cases gk with
    | zero => exact absurd HA.out (by simp [bits_folded.l0])
    | succ k1 =>
      have H := HA.out
      clear HA
      simp only [bits_folded.l0] at H
      by_cases c2 : x0_1 > 65535
      · rw [if_pos c2] at H
        have c2b0 : decide (65535 < x0_1) = true := decide_eq_true c2
        clear c2
        have H' := Aside0.mk H
        clear H
        go_wp2
        go_roundg k1
        case measure => have := HK1.out; omega
        case rel => exact ⟨(wrap64 ((x0_1 / 65536) + (Go.bits .and .i64 x0_1 65535))), (by first | rfl | (simp; done) | (simp [*]; done)), H', ⟨by have := HK1.out; omega⟩, by repeat (first | exact Drawn0.refl _ | apply Drawn0.step)⟩
      · rw [if_neg c2] at H
        have c2b0 : decide (65535 < x0_1) = false := decide_eq_false c2
        clear c2
        obtain rfl := Option.some.inj H
        go_wp2
        go_ret
        exact ⟨by first | rfl | (simp; done) | (simp [*]; done), by repeat (first | exact Drawn0.refl _ | apply Drawn0.step)⟩

/-! ### bits_Sum: function 17 -/
def bits_Sum.l0 : Nat → Int → List Int → Int → Int → Option (Int)
  | 0, _, _, _, _ => none
  | k + 1, x3, x6, x7, x8 => if x8 < x7 then (if 0 ≤ x8 then (if x8 < (x6.length : Int) then (if (Int.tmod x8 2) = 0 then ((bits_folded.f k (wrap64 (x3 + (wrap64 ((wrap64 (rd x6 x8)) * 256))))).bind fun t105 => (bits_Sum.l0 k t105 x6 x7 (wrap64 (x8 + 1)))) else ((bits_folded.f k (wrap64 (x3 + (wrap64 (rd x6 x8))))).bind fun t106 => (bits_Sum.l0 k t106 x6 x7 (wrap64 (x8 + 1))))) else (none)) else (none)) else (some (Go.bits .and .i64 (Go.bits .xor .i64 (-1) x3) 65535))
def bits_Sum.f (k : Nat) (l0 : List Int) : Option (Int) := bits_Sum.l0 k 0 l0 (l0.length : Int) 0
theorem bits_Sum.mono_l : ∀ k, (∀ y0 y1 y2 y3, LeO (bits_Sum.l0 k y0 y1 y2 y3) (bits_Sum.l0 (k + 1) y0 y1 y2 y3))
  | 0 => fun _ _ _ _ r h => by simp [bits_Sum.l0] at h
  | k + 1 => by
    have ih0 := bits_Sum.mono_l k
    · intro y0 y1 y2 y3
      unfold bits_Sum.l0
      repeat' first
      | (with_reducible exact ih0 _ _ _ _)
      | (with_reducible exact bits_folded.mono _ _)
      | (with_reducible exact LeO.refl _)
      | (with_reducible exact LeO.none _)
      | (with_reducible refine LeO.ite ?_ ?_)
      | (with_reducible refine LeO.bind ?_ (fun _ => ?_))
      | exact ih0 _ _ _ _
      | exact bits_folded.mono _ _
      | exact LeO.none _
      | refine LeO.ite ?_ ?_
      | refine LeO.bind ?_ (fun _ => ?_)
theorem bits_Sum.mono : ∀ a0 k, LeO (bits_Sum.f k a0) (bits_Sum.f (k + 1) a0) := by
  intro a0 k
  have ih0 := bits_Sum.mono_l k
  unfold bits_Sum.f
  repeat' first
      | (with_reducible exact ih0 _ _ _ _)
      | (with_reducible exact bits_folded.mono _ _)
      | (with_reducible exact LeO.refl _)
      | (with_reducible exact LeO.none _)
      | (with_reducible refine LeO.ite ?_ ?_)
      | (with_reducible refine LeO.bind ?_ (fun _ => ?_))
      | exact ih0 _ _ _ _
      | exact bits_folded.mono _ _
      | exact LeO.none _
      | refine LeO.ite ?_ ?_
      | refine LeO.bind ?_ (fun _ => ?_)
set_option maxHeartbeats 8000000 in
set_option maxRecDepth 100000 in
theorem bits_Sum.calls (k : Nat) (A0 : Option Addr) (c0 : Nat) (l0 : List Int) (r : Int) (w : World) (hr0 : Kd.C (Kd.int .u8) w A0 l0.length l0) (hc0 : l0.length ≤ c0) (h : bits_Sum.f k l0 = some r) :
    Calls Try.prog 17 #[.slice A0 l0.length c0] w fun e w' => e = .returned (.int .i64 r) ∧ Drawn0 w w' := by
  have HR0 := Aside0.mk hr0
  have HC0 := Aside0.mk hc0
  clear hr0 hc0
  have H : (bits_Sum.l0 k 0 l0 (l0.length : Int) 0) = some r := h
  clear h
  have H' := Aside0.mk H
  clear H
  go_enter Try.func17, Try.ntmps17
  go_wp2
  go_loopg [3, 8] k (fun kq v3 v8 w' => ∃ (x3_1 : Int) (x8_1 : Int), v3 = .int .i64 x3_1 ∧ v8 = .int .i64 x8_1 ∧ Aside0 (bits_Sum.l0 kq x3_1 l0 (l0.length : Int) x8_1 = some r) ∧ Aside0 (kq ≤ k) ∧ Drawn0 w w')
  case atStart => exact ⟨(0), (0), (by first | rfl | (simp; done) | (simp [*]; done)), (by first | rfl | (simp; done) | (simp [*]; done)), H', ⟨Nat.le_refl _⟩, by repeat (first | exact Drawn0.refl _ | apply Drawn0.step)⟩
  case round =>
    clear H'
    try clear c1
    obtain ⟨x3_1, x8_1, rfl, rfl, HA, HK1, ⟨m1, rfl⟩⟩ := hrel
    cases gk with
    | zero => exact absurd HA.out (by simp [bits_Sum.l0])
    | succ k1 =>
      have H := HA.out
      clear HA
      simp only [bits_Sum.l0] at H
      by_cases c2 : x8_1 < (l0.length : Int)
      · rw [if_pos c2] at H
        have c2b0 : decide (x8_1 < (l0.length : Int)) = true := decide_eq_true c2
        clear c2
        by_cases c3 : 0 ≤ x8_1
        · rw [if_pos c3] at H
          have c3b0 : decide (0 ≤ x8_1) = true := decide_eq_true c3
          clear c3
          by_cases c4 : x8_1 < (l0.length : Int)
          · rw [if_pos c4] at H
            have c4b0 : decide (x8_1 < (l0.length : Int)) = true := decide_eq_true c4
            clear c4
            by_cases c5 : (Int.tmod x8_1 2) = 0
            · rw [if_pos c5] at H
              have c5b0 : ((Int.tmod x8_1 2) == 0) = true := beq_iff_eq.mpr c5
              have c5b1 : ((Int.tmod x8_1 2) != 0) = false := bne_eq_false_iff_eq.mpr c5
              clear c5
              replace H := Option.bind_eq_some_iff.mp H
              obtain ⟨t105, A60, H⟩ := H
              replace H : (bits_Sum.l0 k1 t105 l0 (l0.length : Int) (wrap64 (x8_1 + 1))) = some r := H
              have A6 := Aside0.mk A60
              clear A60
              have H' := Aside0.mk H
              clear H
              have p104 : 0 ≤ (x8_1 : Int) := of_decide_eq_true (by first | (with_reducible assumption) | assumption)
              have q104 : x8_1 < (l0.length : Int) := of_decide_eq_true (by first | (with_reducible assumption) | assumption)
              obtain ⟨ad104, e104, hx104_0⟩ := Kd.at_int HR0.out x8_1 p104 q104
              cases e104
              replace p104 := eq_true p104
              replace q104 := eq_true q104
              go_wp2_with (first | ((with_reducible refine gate_callee (f := 39) rfl ?_); refine goesL_ (some 26) rfl rfl Try.func39 (by kernel_rfl) rfl #[.int .i64 (wrap64 (x3_1 + (wrap64 ((wrap64 (rd l0 x8_1)) * 256))))] rfl (by (try simp only [List.map_toArray, List.map_cons, List.map_nil]); first | done | rfl | (simp only [List.length_drop, List.length_take]; rfl)) ?_; (with_reducible refine (bits_folded.calls k1 (wrap64 (x3_1 + (wrap64 ((wrap64 (rd l0 x8_1)) * 256)))) t105 _ A6.out).mono ?_); rintro e w' ⟨rfl, ⟨nd, rfl⟩⟩; refine ⟨_, rfl, ?_⟩))
              go_roundg k1
              case measure => have := HK1.out; omega
              case rel => exact ⟨(t105), (wrap64 (x8_1 + 1)), (by first | rfl | (simp; done) | (simp [*]; done)), (by first | rfl | (simp; done) | (simp [*]; done)), H', ⟨by have := HK1.out; omega⟩, by repeat (first | exact Drawn0.refl _ | apply Drawn0.step)⟩
            · rw [if_neg c5] at H
              have c5b0 : ((Int.tmod x8_1 2) == 0) = false := beq_eq_false_iff_ne.mpr c5
              have c5b1 : ((Int.tmod x8_1 2) != 0) = true := bne_iff_ne.mpr c5
              replace H := Option.bind_eq_some_iff.mp H
              obtain ⟨t106, A70, H⟩ := H
              replace H : (bits_Sum.l0 k1 t106 l0 (l0.length : Int) (wrap64 (x8_1 + 1))) = some r := H
              have A7 := Aside0.mk A70
              clear A70
              have H' := Aside0.mk H
              clear H
              have p104 : 0 ≤ (x8_1 : Int) := of_decide_eq_true (by first | (with_reducible assumption) | assumption)
              have q104 : x8_1 < (l0.length : Int) := of_decide_eq_true (by first | (with_reducible assumption) | assumption)
              obtain ⟨ad104, e104, hx104_0⟩ := Kd.at_int HR0.out x8_1 p104 q104
              cases e104
              replace p104 := eq_true p104
              replace q104 := eq_true q104
              go_wp2_with (first | ((with_reducible refine gate_callee (f := 39) rfl ?_); refine goesL_ (some 26) rfl rfl Try.func39 (by kernel_rfl) rfl #[.int .i64 (wrap64 (x3_1 + (wrap64 (rd l0 x8_1))))] rfl (by (try simp only [List.map_toArray, List.map_cons, List.map_nil]); first | done | rfl | (simp only [List.length_drop, List.length_take]; rfl)) ?_; (with_reducible refine (bits_folded.calls k1 (wrap64 (x3_1 + (wrap64 (rd l0 x8_1)))) t106 _ A7.out).mono ?_); rintro e w' ⟨rfl, ⟨nd, rfl⟩⟩; refine ⟨_, rfl, ?_⟩))
              go_roundg k1
              case measure => have := HK1.out; omega
              case rel => exact ⟨(t106), (wrap64 (x8_1 + 1)), (by first | rfl | (simp; done) | (simp [*]; done)), (by first | rfl | (simp; done) | (simp [*]; done)), H', ⟨by have := HK1.out; omega⟩, by repeat (first | exact Drawn0.refl _ | apply Drawn0.step)⟩
          · rw [if_neg c4] at H
            exact absurd H (by simp)
        · rw [if_neg c3] at H
          exact absurd H (by simp)
      · rw [if_neg c2] at H
        have c2b0 : decide (x8_1 < (l0.length : Int)) = false := decide_eq_false c2
        clear c2
        obtain rfl := Option.some.inj H
        go_wp2
        go_ret
        exact ⟨by first | rfl | (simp; done) | (simp [*]; done), by repeat (first | exact Drawn0.refl _ | apply Drawn0.step)⟩

/-! ### bits_table: function 42 -/
-- EXT HIDDEN
def crcStep (n : Int) : Int := if Go.bits .and .i64 n 1 = 1 then Go.bits .xor .i64 (n / 2) 3988292384 else n / 2
def crcIter : Nat → Int → Int
  | 0, n => n
  | k + 1, n => crcIter k (crcStep n)
def crcTab (i : Int) : Int := crcIter 8 i
def tabCells (k : Nat) : Array Value := (Array.range 256).map fun i => if i < k then Value.int .i64 (crcTab i) else Value.int .i64 0
theorem tabCells_size (k : Nat) : (tabCells k).size = 256 := by simp [tabCells]
theorem tabCells_one (k : Nat) : (tabCells k).all (·.oneCell') = true := by
  rw [Array.all_eq_true]
  intro i h
  simp only [tabCells, Array.getElem_map, Array.getElem_range]
  split <;> rfl
theorem tabCells_at (k i : Nat) (h : i < 256) : (tabCells k)[i]? = some (if i < k then Value.int .i64 (crcTab i) else Value.int .i64 0) := by
  rw [Array.getElem?_eq_getElem (by rw [tabCells_size]; exact h)]
  simp [tabCells]
theorem tabCells_snoc (k : Nat) : (tabCells k).setIfInBounds k (.int .i64 (crcTab k)) = tabCells (k + 1) := by
  apply Array.ext_getElem?
  intro i
  rw [Array.getElem?_setIfInBounds]
  by_cases h : i < 256
  · rw [tabCells_at _ _ h, tabCells_at _ _ h, tabCells_size]
    by_cases e : k = i
    · subst e; simp [h]
    · rw [if_neg e]
      by_cases hk : i < k
      · rw [if_pos hk, if_pos (by omega)]
      · rw [if_neg hk, if_neg (by omega)]
  · rw [Array.getElem?_eq_none (by rw [tabCells_size]; omega), Array.getElem?_eq_none (by rw [tabCells_size]; omega), tabCells_size]
    split
    · split
      · omega
      · rfl
    · rfl
theorem info_tab : (Try.prog.info? 53).map (fun i => (i.zero, i.size)) = some (some (.agg (tabCells 0)), 256) := by kernel_rfl
theorem crcIter_succ (k : Nat) (n : Int) : crcIter (k + 1) n = crcIter k (crcStep n) := rfl
theorem crcIter_out (k : Nat) (n : Int) : crcIter k (crcStep n) = crcStep (crcIter k n) := by
  induction k generalizing n with
  | zero => rfl
  | succ k ih => rw [crcIter_succ, ih, crcIter_succ]


theorem tab_low (w : World) (A A' B : Array Value) (t : TypeId) : ((w.alloc (.cells A t)).alloc (.cells B t)).setRow w.heap.size A' = (w.alloc (.cells A' t)).alloc (.cells B t) := by
  simp only [World.setRow, World.alloc]
  congr 1
  apply Array.ext_getElem?
  intro i
  rw [Array.getElem?_modify]
  by_cases h : w.heap.size = i
  · subst h
    simp [Array.getElem?_push]
  · have h' : ¬ i = w.heap.size := fun e => h e.symm
    simp [h, h', Array.getElem?_push]
theorem tab_store (w : World) (A A' B : Array Value) (n : Nat) (hA : A.size = n) (hA' : A'.size = n) (h1 : A'.all (·.oneCell') = true) (hi : (Try.prog.info? 53).map (·.size) = some n) :
    (storeCells ⟨w.heap.size, 0, none⟩ A'.toList 0).run Try.prog ((w.alloc (.cells A 53)).alloc (.cells B 53)) = .ok () ((w.alloc (.cells A' 53)).alloc (.cells B 53)) := by
  have := run_storeVar_row (P := Try.prog) ((w.alloc (.cells A 53)).alloc (.cells B 53)) w.heap.size 53 53 A A' (heap_alloc2_old w _ _) (by rw [hA']; exact hi) (by rw [hA, hA']) h1
  rw [tab_low] at this
  cases hq : Try.prog.info? 53 with
  | none => simp [hq] at hi
  | some i =>
    have hs : A'.size = i.size := by simp [hq] at hi; omega
    simpa [storeVar, sizeOf, typeInfo, hq, Value.cells, hs] using this
theorem tabCells_get (k i : Nat) (h : i < 256) : (tabCells k)[i]? = some (if i < k then Value.int .i64 (crcTab i) else Value.int .i64 0) := tabCells_at k i h

set_option maxHeartbeats 4000000 in
set_option maxRecDepth 1000000 in
theorem table_calls (w : World) : Calls Try.prog 42 #[] w fun e w' => e = .returned (.agg (tabCells 256)) ∧ w' = (w.alloc (.cells (tabCells 256) 53)).alloc (.cells (tabCells 256) 53) := by
  have hz := (zero_of_info info_tab).1
  go_enter Try.func42, Try.ntmps42
  go_wp2
  go_loopg [4] 256 (fun g s4 wx => ∃ i : Nat, i + g = 256 ∧ s4 = .int .i64 i ∧ wx = (w.alloc (.cells (tabCells 0) 53)).alloc (.cells (tabCells i) 53))
  case atStart => exact ⟨0, by omega, rfl, rfl⟩
  case round =>
    obtain ⟨i, hig, rfl, rfl⟩ := hrel
    cases gk with
    | zero =>
      obtain rfl : i = 256 := by omega
      have hsz : (Try.prog.info? 53).map (·.size) = some (tabCells 256).size := by rw [tabCells_size]; exact (zero_of_info info_tab).2
      go_wp2_with (first | (with_reducible refine wpList_load_row rfl 53 _ rfl (w.heap.size + 1) rfl 53 _ (0, 0) _ (heap_alloc2_new _ _ _) Try.underlying53 rfl hsz ?_) | (with_reducible refine wpList_store_row rfl 53 _ _ rfl w.heap.size _ rfl rfl 53 _ (heap_alloc2_old _ _ _) hsz (by rw [tabCells_size, tabCells_size]) (tabCells_one _) ?_))
      rw [tab_low]
      refine bodyPost_ret (v := .agg (tabCells 256)) ?_ rfl ⟨rfl, rfl⟩
      exact results_cell_row rfl _ _ w.heap.size 53 _ (0, 0) _ rfl (heap_alloc2_old _ _ _) Try.underlying53 rfl hsz
    | succ g =>
      have hi : i < 256 := by omega
      have hiz : (i : Int) < 256 := by omega
      go_wp2
      go_loopg [3, 8] 8 (fun g s3 s8 wx => ∃ j : Nat, j + g = 8 ∧ s8 = .int .i64 j ∧ s3 = .int .i64 (crcIter j i) ∧ wx = (w.alloc (.cells (tabCells 0) 53)).alloc (.cells (tabCells i) 53))
      case atStart => exact ⟨0, by omega, rfl, rfl, rfl⟩
      case round =>
        obtain ⟨j, hjg, rfl, rfl, rfl⟩ := hrel
        cases gk with
        | zero =>
          obtain rfl : j = 8 := by omega
          have hc : (tabCells i)[i]? = some (.int .i64 0) := by rw [tabCells_at _ _ hi, if_neg (by omega)]
          go_wp2
          go_roundg g
          case measure => omega
          case rel => exact ⟨i + 1, by omega, by first | rfl | simp, by rw [← tabCells_snoc]; rfl⟩
        | succ g2 =>
          have hj : (j : Int) < 8 := by omega
          obtain ⟨n, hn⟩ : ∃ n, crcIter j i = n := ⟨_, rfl⟩
          rw [hn]
          have Hn := Aside0.mk hn
          clear hn
          by_cases hb : Go.bits .and .i64 n 1 = 1
          · have hb1 : (Go.bits .and .i64 n 1 == 1) = true := beq_iff_eq.mpr hb
            have Hb := Aside0.mk hb
            clear hb
            go_wp2
            go_roundg g2
            case measure => omega
            case rel => exact ⟨j + 1, by omega, by first | rfl | simp, by rw [show crcIter (j + 1) (i : Int) = crcStep n from by rw [crcIter_succ, crcIter_out, Hn.out], crcStep, if_pos Hb.out], rfl⟩
          · have hb1 : (Go.bits .and .i64 n 1 == 1) = false := beq_eq_false_iff_ne.mpr hb
            have Hb := Aside0.mk hb
            clear hb
            go_wp2
            go_roundg g2
            case measure => omega
            case rel => exact ⟨j + 1, by omega, by first | rfl | simp, by rw [show crcIter (j + 1) (i : Int) = crcStep n from by rw [crcIter_succ, crcIter_out, Hn.out], crcStep, if_neg Hb.out], rfl⟩



/-! ### bits_Crc: function 19 -/
-- EXT rounds=0 making=1
theorem heap3 (w : World) (A B C : Obj) : (((w.alloc A).alloc B).alloc C).heap[w.heap.size + 1 + 1]? = some C := by
  have h := heap_alloc_new ((w.alloc A).alloc B) C
  rwa [World.size_alloc, World.size_alloc] at h
theorem set3 (w : World) (A B : Obj) (c c' : Array Value) (t : TypeId) : (((w.alloc A).alloc B).alloc (.cells c t)).setRow (w.heap.size + 1 + 1) c' = ((w.alloc A).alloc B).alloc (.cells c' t) := by
  have h := World.setRow_alloc_new ((w.alloc A).alloc B) c c' t
  rwa [World.size_alloc, World.size_alloc] at h
theorem crc_index (n c : Int) (h0 : 0 ≤ c) (h1 : c < 256) : 0 ≤ Go.bits .xor .i64 (Go.bits .and .i64 n 255) c ∧ Go.bits .xor .i64 (Go.bits .and .i64 n 255) c < 256 := by
  have e := Hand.and_i64_mask n 8 (by decide)
  have e' : Go.bits .and .i64 n 255 = n % 256 := e
  rw [e', Hand.xor_i64 _ _ (by omega) (by omega) h0 (by omega)]
  have := Nat.xor_lt_two_pow (n := 8) (x := (n % 256).toNat) (y := c.toNat) (by omega) (by omega)
  omega
def crcFold : Int → List Int → Int
  | n, [] => n
  | n, c :: r => crcFold (Go.bits .xor .i64 (crcTab (Go.bits .xor .i64 (Go.bits .and .i64 n 255) c)) (n / 256)) r
def isByte (c : Int) : Bool := decide (0 ≤ c) && decide (c < 256)
def bits_Crc.f (l0 : List Int) : Option Int := if l0.all isByte = true then some (Go.bits .xor .i64 (crcFold 4294967295 l0) 4294967295) else none
theorem crcFold_snoc (n : Int) (l : List Int) (c : Int) : crcFold n (l ++ [c]) = Go.bits .xor .i64 (crcTab (Go.bits .xor .i64 (Go.bits .and .i64 (crcFold n l) 255) c)) (crcFold n l / 256) := by
  induction l generalizing n with
  | nil => rfl
  | cons a l ih => simp only [List.cons_append, crcFold, ih]
set_option maxHeartbeats 4000000 in
set_option maxRecDepth 1000000 in
theorem bits_Crc.calls (A0 : Option Addr) (c0 : Nat) (l0 : List Int) (r : Int) (w : World) (hr0 : Kd.C (Kd.int .u8) w A0 l0.length l0) (hc0 : l0.length ≤ c0) (h : bits_Crc.f l0 = some r) :
    Calls Try.prog 19 #[.slice A0 l0.length c0] w fun e w' => e = .returned (.int .i64 r) ∧ Below w.heap.size w w' := by
  have HR0 := Aside0.mk hr0
  have HC0 := Aside0.mk hc0
  clear hr0 hc0
  have hz := (zero_of_info info_tab).1
  have hsz : (Try.prog.info? 53).map (·.size) = some (tabCells 256).size := by rw [tabCells_size]; exact (zero_of_info info_tab).2
  have hld : (tabCells 0).size = (tabCells 256).size := by rw [tabCells_size, tabCells_size]
  have H := Aside0.mk h
  have HA : Aside0 (l0.all isByte = true) := ⟨by
    unfold bits_Crc.f at h
    by_cases e : l0.all isByte = true
    · exact e
    · rw [if_neg e] at h; cases h⟩
  clear h
  go_enter Try.func19, Try.ntmps19
  go_wp2_with (first | (go_at_call 42; refine (table_calls _).mono ?_; rintro e w' ⟨rfl, rfl⟩) | (with_reducible refine wpList_store_row rfl 53 _ _ rfl (w.heap.size + 1 + 1) _ rfl rfl 53 _ (heap3 _ _ _ _) hsz hld (tabCells_one _) ?_; rw [set3]))
  obtain ⟨W1, hW1⟩ : ∃ W1, ((w.alloc (.cells (tabCells 256) 53)).alloc (.cells (tabCells 256) 53)).alloc (.cells (tabCells 256) 53) = W1 := ⟨_, rfl⟩
  have HRW := Aside0.mk (Kd.C_alloc (Kd.C_alloc (Kd.C_alloc HR0.out (.cells (tabCells 256) 53)) (.cells (tabCells 256) 53)) (.cells (tabCells 256) 53))
  have HT : Aside0 (∀ j : Int, 0 ≤ j → j < 256 → W1.cell? ⟨w.heap.size + 1 + 1, j.toNat, none⟩ = some (.int .i64 (crcTab j))) := ⟨fun j h0 h1 => by
    rw [← hW1]
    show World.cell? _ _ = _
    rw [cell_of_row _ _ _ _ _ _ (heap3 _ _ _ _), tabCells_at _ _ (by omega), if_pos (by omega), Int.toNat_of_nonneg h0]⟩
  have HB : Aside0 (Below w.heap.size w W1) := ⟨by rw [← hW1]; exact (((Below.refl _ w).alloc (Nat.le_refl _) _).alloc (by simp) _).alloc (by simp; omega) _⟩
  rw [hW1] at HRW
  rw [hW1]
  clear hW1
  go_loopg [4, 10] l0.length (fun g s4 s10 wx => ∃ i : Nat, i + g = l0.length ∧ s10 = .int .i64 i ∧ s4 = .int .i64 (crcFold 4294967295 (l0.take i)) ∧ wx = W1)
  case atStart => exact ⟨0, by omega, rfl, rfl, rfl⟩
  case round =>
    obtain ⟨i, hig, rfl, rfl, rfl⟩ := hrel
    cases gk with
    | zero =>
      obtain rfl : i = l0.length := by omega
      go_wp2
      go_ret
      have h := H.out
      unfold bits_Crc.f at h
      rw [if_pos HA.out] at h
      injection h with h
      exact ⟨by rw [← h]; rfl, HB.out⟩
    | succ g =>
      have hi : i < l0.length := by omega
      have hi1 : (i : Int) < (l0.length : Int) := by omega
      have hi0 : (0 : Int) ≤ (i : Int) := by omega
      obtain ⟨ad, ead, hx⟩ := Kd.at_int HRW.out (i : Int) hi0 hi1
      cases ead
      obtain ⟨c, hc⟩ : ∃ c, rd l0 (i : Int) = c := ⟨_, rfl⟩
      have hcb : 0 ≤ c ∧ c < 256 := by
        have := List.all_eq_true.1 HA.out (l0[i]) (List.getElem_mem hi)
        rw [← hc]
        simpa [rd, isByte, hi] using this
      rw [hc, Int.toNat_natCast] at hx
      have HS : Aside0 (crcFold 4294967295 (l0.take (i + 1)) = Go.bits .xor .i64 (crcTab (Go.bits .xor .i64 (Go.bits .and .i64 (crcFold 4294967295 (l0.take i)) 255) c)) (crcFold 4294967295 (l0.take i) / 256)) := ⟨by
        rw [List.take_succ_eq_append_getElem hi, crcFold_snoc]
        rw [show l0[i] = c from by rw [← hc]; simp [rd, hi]]⟩
      clear hc
      obtain ⟨n, hn⟩ : ∃ n, crcFold 4294967295 (l0.take i) = n := ⟨_, rfl⟩
      rw [hn] at HS ⊢
      clear hn
      obtain ⟨hcb0, hcb1⟩ := hcb
      obtain ⟨hj0, hj1⟩ := crc_index n c hcb0 hcb1
      have hmx : (l0.length : Int) ≤ 9223372036854775807 := by have := Kd.C_max HRW.out; omega
      have hT := HT.out _ hj0 hj1
      go_wp2
      go_roundg g
      case measure => omega
      case rel => exact ⟨i + 1, by omega, by first | rfl | simp, by rw [HS.out], rfl⟩


end Go.Proofs.Ytifalpoabgofkaa.G
