/- Laid by a program of this repo over the translation: each Go function as a plain Lean function with the proof that the call comes to its answers, or a statement's row out of these; conditions: the hypotheses of each theorem. -/
import Derived.Test.YtlilcbpcjmcfbaaDoorDx0
namespace Go.Proofs.YtlilcbpcjmcfbaaDoor.D
open Go.RowKit Go.Proofs.YtlilcbpcjmcfbaaDoorW.PrintWords Go.Proofs.YtlilcbpcjmcfbaaDoorW.PrintLast Go.Proofs.YtlilcbpcjmcfbaaDoorW.PrintMore
attribute [local go_sem] max2_int min2_int max_two min_two max_three min_three max_four min_four   -- for this text's walks alone
set_option linter.unusedVariables false
set_option linter.unusedSimpArgs false

/-! ### bits_asked: function 28 -/
def bits_asked.j0 : Nat → List Int → Int → Int → Bool → Option (Int)
  | 0, _, _, _, _ => none
  | k + 1, x0, x1, x2, x31 => if x31 = true then (some 1) else (if x2 > (wrap64 (8 * (x0.length : Int))) then (some 4) else (if x1 > (wrap64 ((wrap64 (8 * (x0.length : Int))) - x2)) then (some 4) else (some 0)))
def bits_asked.f (k : Nat) (l0 : List Int) (a1 : Int) (a2 : Int) (a3 : Bool) : Option (Int) := if a2 < 0 then (bits_asked.j0 k l0 a1 a2 true) else (if a2 > 48 then (bits_asked.j0 k l0 a1 a2 true) else (if a1 < 0 then (bits_asked.j0 k l0 a1 a2 true) else (if a3 = true then (if (Int.tmod a2 8) = 0 then (bits_asked.j0 k l0 a1 a2 ((Int.tmod a1 8) != 0)) else (bits_asked.j0 k l0 a1 a2 true)) else (bits_asked.j0 k l0 a1 a2 false))))
theorem bits_asked.mono_l : ∀ k, (∀ y0 y1 y2 y3, LeO (bits_asked.j0 k y0 y1 y2 y3) (bits_asked.j0 (k + 1) y0 y1 y2 y3))
  | 0 => fun _ _ _ _ r h => by simp [bits_asked.j0] at h
  | k + 1 => by
    have ih0 := bits_asked.mono_l k
    · intro y0 y1 y2 y3
      unfold bits_asked.j0
      repeat' first
      | (with_reducible exact ih0 _ _ _ _)
      | (with_reducible exact LeO.refl _)
      | (with_reducible exact LeO.none _)
      | (with_reducible refine LeO.ite ?_ ?_)
      | (with_reducible refine LeO.bind ?_ (fun _ => ?_))
      | exact ih0 _ _ _ _
      | exact LeO.none _
      | refine LeO.ite ?_ ?_
      | refine LeO.bind ?_ (fun _ => ?_)
theorem bits_asked.mono : ∀ a0 a1 a2 a3 k, LeO (bits_asked.f k a0 a1 a2 a3) (bits_asked.f (k + 1) a0 a1 a2 a3) := by
  intro a0 a1 a2 a3 k
  have ih0 := bits_asked.mono_l k
  unfold bits_asked.f
  repeat' first
      | (with_reducible exact ih0 _ _ _ _)
      | (with_reducible exact LeO.refl _)
      | (with_reducible exact LeO.none _)
      | (with_reducible refine LeO.ite ?_ ?_)
      | (with_reducible refine LeO.bind ?_ (fun _ => ?_))
      | exact ih0 _ _ _ _
      | exact LeO.none _
      | refine LeO.ite ?_ ?_
      | refine LeO.bind ?_ (fun _ => ?_)
set_option maxHeartbeats 8000000 in
set_option maxRecDepth 100000 in
theorem bits_asked.calls (k : Nat) (A0 : Option Addr) (c0 : Nat) (l0 : List Int) (a1 : Int) (a2 : Int) (a3 : Bool) (r : Int) (w : World) (hr0 : Kd.C (Kd.int .u8) w A0 l0.length l0) (hc0 : l0.length ≤ c0) (h : bits_asked.f k l0 a1 a2 a3 = some r) :
    Calls Tryd.prog 28 #[.slice A0 l0.length c0, .int .i64 a1, .int .i64 a2, .bool a3] w fun e w' => e = .returned (.int .i64 r) ∧ Drawn0 w w' := by
  have HR0 := Aside0.mk hr0
  have HC0 := Aside0.mk hc0
  clear hr0 hc0
  have H : (if a2 < 0 then (bits_asked.j0 k l0 a1 a2 true) else (if a2 > 48 then (bits_asked.j0 k l0 a1 a2 true) else (if a1 < 0 then (bits_asked.j0 k l0 a1 a2 true) else (if a3 = true then (if (Int.tmod a2 8) = 0 then (bits_asked.j0 k l0 a1 a2 ((Int.tmod a1 8) != 0)) else (bits_asked.j0 k l0 a1 a2 true)) else (bits_asked.j0 k l0 a1 a2 false))))) = some r := h
  clear h
  have HC5 := Aside0.mk H
  clear H
  go_enter Tryd.func28, Tryd.ntmps28
  go_upto_region 1 with (fail)
  go_cut [31] (fun v31 wc => ∃ (kq : Nat) (x31_4 : Bool), v31 = .bool x31_4 ∧ Aside0 (bits_asked.j0 kq l0 a1 a2 x31_4 = some r) ∧ Aside0 (kq ≤ k) ∧ Drawn0 w wc)
  case first =>
    have H := HC5.out
    clear HC5
    by_cases c6 : a2 < 0
    · rw [if_pos c6] at H
      have c6b0 : decide (a2 < 0) = true := decide_eq_true c6
      clear c6
      (first | rw [c6b0] | (simp only [i64_w, i32_w]; rw [c6b0]) | skip)
      have H' := Aside0.mk H
      clear H
      go_wp2
      go_meet
      case rel => exact ⟨_, (true), (by first | rfl | (simp; done) | (simp [*]; done)), H', ⟨by first | omega | exact Nat.le_refl _⟩, by repeat (first | exact Drawn0.refl _ | apply Drawn0.step)⟩
    · rw [if_neg c6] at H
      have c6b0 : decide (a2 < 0) = false := decide_eq_false c6
      clear c6
      (first | rw [c6b0] | (simp only [i64_w, i32_w]; rw [c6b0]) | skip)
      by_cases c7 : a2 > 48
      · rw [if_pos c7] at H
        have c7b0 : decide (48 < a2) = true := decide_eq_true c7
        clear c7
        have H' := Aside0.mk H
        clear H
        go_wp2
        go_meet
        case rel => exact ⟨_, (true), (by first | rfl | (simp; done) | (simp [*]; done)), H', ⟨by first | omega | exact Nat.le_refl _⟩, by repeat (first | exact Drawn0.refl _ | apply Drawn0.step)⟩
      · rw [if_neg c7] at H
        have c7b0 : decide (48 < a2) = false := decide_eq_false c7
        clear c7
        by_cases c8 : a1 < 0
        · rw [if_pos c8] at H
          have c8b0 : decide (a1 < 0) = true := decide_eq_true c8
          clear c8
          have H' := Aside0.mk H
          clear H
          go_wp2
          go_meet
          case rel => exact ⟨_, (true), (by first | rfl | (simp; done) | (simp [*]; done)), H', ⟨by first | omega | exact Nat.le_refl _⟩, by repeat (first | exact Drawn0.refl _ | apply Drawn0.step)⟩
        · rw [if_neg c8] at H
          have c8b0 : decide (a1 < 0) = false := decide_eq_false c8
          clear c8
          by_cases c9 : a3 = true
          · subst c9
            have H1 : (if (Int.tmod a2 8) = 0 then (bits_asked.j0 k l0 a1 a2 ((Int.tmod a1 8) != 0)) else (bits_asked.j0 k l0 a1 a2 true)) = some r := by rw [if_pos rfl] at H; exact H
            clear H
            have H := H1
            clear H1
            by_cases c10 : (Int.tmod a2 8) = 0
            · rw [if_pos c10] at H
              have c10b0 : ((Int.tmod a2 8) == 0) = true := beq_iff_eq.mpr c10
              have c10b1 : ((Int.tmod a2 8) != 0) = false := bne_eq_false_iff_eq.mpr c10
              clear c10
              have H' := Aside0.mk H
              clear H
              go_wp2
              go_meet
              case rel => exact ⟨_, (((Int.tmod a1 8) != 0)), (by first | rfl | (simp; done) | (simp [*]; done)), H', ⟨by first | omega | exact Nat.le_refl _⟩, by repeat (first | exact Drawn0.refl _ | apply Drawn0.step)⟩
            · rw [if_neg c10] at H
              have c10b0 : ((Int.tmod a2 8) == 0) = false := beq_eq_false_iff_ne.mpr c10
              have c10b1 : ((Int.tmod a2 8) != 0) = true := bne_iff_ne.mpr c10
              have H' := Aside0.mk H
              clear H
              go_wp2
              go_meet
              case rel => exact ⟨_, (true), (by first | rfl | (simp; done) | (simp [*]; done)), H', ⟨by first | omega | exact Nat.le_refl _⟩, by repeat (first | exact Drawn0.refl _ | apply Drawn0.step)⟩
          · replace c9 := Bool.eq_false_iff.mpr c9
            subst c9
            have H1 : (bits_asked.j0 k l0 a1 a2 false) = some r := by rw [if_neg (show ¬ (false = true) by decide)] at H; exact H
            clear H
            have H := H1
            clear H1
            have H' := Aside0.mk H
            clear H
            go_wp2
            go_meet
            case rel => exact ⟨_, (false), (by first | rfl | (simp; done) | (simp [*]; done)), H', ⟨by first | omega | exact Nat.le_refl _⟩, by repeat (first | exact Drawn0.refl _ | apply Drawn0.step)⟩
  case rest =>
    clear HC5
    try clear c1
    try clear c2
    try clear p2
    try clear c6
    try clear c6b0
    try clear c7
    try clear c7b0
    try clear c8
    try clear c8b0
    try clear c9
    try clear c10
    try clear c10b0
    try clear c10b1
    obtain ⟨kq, x31_4, rfl, HA, HJ4, ⟨mc4, rfl⟩⟩ := hcut
    cases kq with
    | zero => exact absurd HA.out (by simp [bits_asked.j0])
    | succ kj4 =>
      have H := HA.out
      clear HA
      simp only [bits_asked.j0] at H
      by_cases c11 : x31_4 = true
      · subst c11
        have H1 : (some 1) = some r := by rw [if_pos rfl] at H; exact H
        clear H
        have H := H1
        clear H1
        obtain rfl := Option.some.inj H
        go_wp2
        go_ret
        exact ⟨by first | rfl | (simp; done) | (simp [*]; done), by repeat (first | exact Drawn0.refl _ | apply Drawn0.step)⟩
      · replace c11 := Bool.eq_false_iff.mpr c11
        subst c11
        have H1 : (if a2 > (wrap64 (8 * (l0.length : Int))) then (some 4) else (if a1 > (wrap64 ((wrap64 (8 * (l0.length : Int))) - a2)) then (some 4) else (some 0))) = some r := by rw [if_neg (show ¬ (false = true) by decide)] at H; exact H
        clear H
        have H := H1
        clear H1
        by_cases c12 : a2 > (wrap64 (8 * (l0.length : Int)))
        · rw [if_pos c12] at H
          have c12b0 : decide ((wrap64 (8 * (l0.length : Int))) < a2) = true := decide_eq_true c12
          clear c12
          obtain rfl := Option.some.inj H
          go_wp2
          go_ret
          exact ⟨by first | rfl | (simp; done) | (simp [*]; done), by repeat (first | exact Drawn0.refl _ | apply Drawn0.step)⟩
        · rw [if_neg c12] at H
          have c12b0 : decide ((wrap64 (8 * (l0.length : Int))) < a2) = false := decide_eq_false c12
          clear c12
          by_cases c13 : a1 > (wrap64 ((wrap64 (8 * (l0.length : Int))) - a2))
          · rw [if_pos c13] at H
            have c13b0 : decide ((wrap64 ((wrap64 (8 * (l0.length : Int))) - a2)) < a1) = true := decide_eq_true c13
            clear c13
            obtain rfl := Option.some.inj H
            go_wp2
            go_ret
            exact ⟨by first | rfl | (simp; done) | (simp [*]; done), by repeat (first | exact Drawn0.refl _ | apply Drawn0.step)⟩
          · rw [if_neg c13] at H
            have c13b0 : decide ((wrap64 ((wrap64 (8 * (l0.length : Int))) - a2)) < a1) = false := decide_eq_false c13
            clear c13
            obtain rfl := Option.some.inj H
            go_wp2
            go_ret
            exact ⟨by first | rfl | (simp; done) | (simp [*]; done), by repeat (first | exact Drawn0.refl _ | apply Drawn0.step)⟩

/-! ### bits_turned: function 29 -/
def bits_turned.l0 : Nat → Int → Int → Int → Int → Option (Int)
  | 0, _, _, _, _ => none
  | k + 1, x0, x5, x7, x8 => if x8 < x7 then (bits_turned.l0 k (x0 / 256) (Go.bits .or .i64 (wrap64 (x5 * 256)) (Go.bits .and .i64 x0 255)) x7 (wrap64 (x8 + 1))) else (some x5)
def bits_turned.f (k : Nat) (a0 : Int) (a1 : Int) : Option (Int) := bits_turned.l0 k a0 0 (wrap64 (Int.tdiv a1 8)) 0
theorem bits_turned.mono_l : ∀ k, (∀ y0 y1 y2 y3, LeO (bits_turned.l0 k y0 y1 y2 y3) (bits_turned.l0 (k + 1) y0 y1 y2 y3))
  | 0 => fun _ _ _ _ r h => by simp [bits_turned.l0] at h
  | k + 1 => by
    have ih0 := bits_turned.mono_l k
    · intro y0 y1 y2 y3
      unfold bits_turned.l0
      repeat' first
      | (with_reducible exact ih0 _ _ _ _)
      | (with_reducible exact LeO.refl _)
      | (with_reducible exact LeO.none _)
      | (with_reducible refine LeO.ite ?_ ?_)
      | (with_reducible refine LeO.bind ?_ (fun _ => ?_))
      | exact ih0 _ _ _ _
      | exact LeO.none _
      | refine LeO.ite ?_ ?_
      | refine LeO.bind ?_ (fun _ => ?_)
theorem bits_turned.mono : ∀ a0 a1 k, LeO (bits_turned.f k a0 a1) (bits_turned.f (k + 1) a0 a1) := by
  intro a0 a1 k
  have ih0 := bits_turned.mono_l k
  unfold bits_turned.f
  repeat' first
      | (with_reducible exact ih0 _ _ _ _)
      | (with_reducible exact LeO.refl _)
      | (with_reducible exact LeO.none _)
      | (with_reducible refine LeO.ite ?_ ?_)
      | (with_reducible refine LeO.bind ?_ (fun _ => ?_))
      | exact ih0 _ _ _ _
      | exact LeO.none _
      | refine LeO.ite ?_ ?_
      | refine LeO.bind ?_ (fun _ => ?_)
set_option maxHeartbeats 8000000 in
set_option maxRecDepth 100000 in
theorem bits_turned.calls (k : Nat) (a0 : Int) (a1 : Int) (r : Int) (w : World) (h : bits_turned.f k a0 a1 = some r) :
    Calls Tryd.prog 29 #[.int .i64 a0, .int .i64 a1] w fun e w' => e = .returned (.int .i64 r) ∧ Drawn0 w w' := by
  have H : (bits_turned.l0 k a0 0 (wrap64 (Int.tdiv a1 8)) 0) = some r := h
  clear h
  have H' := Aside0.mk H
  clear H
  go_enter Tryd.func29, Tryd.ntmps29
  go_wp2
  go_loopg [0, 5, 8] k (fun kq v0 v5 v8 w' => ∃ (x0_1 : Int) (x5_1 : Int) (x8_1 : Int), v0 = .int .i64 x0_1 ∧ v5 = .int .i64 x5_1 ∧ v8 = .int .i64 x8_1 ∧ Aside0 (bits_turned.l0 kq x0_1 x5_1 (wrap64 (Int.tdiv a1 8)) x8_1 = some r) ∧ Aside0 (kq ≤ k) ∧ Drawn0 w w')
  case atStart => exact ⟨(a0), (0), (0), (by first | rfl | (simp; done) | (simp [*]; done)), (by first | rfl | (simp; done) | (simp [*]; done)), (by first | rfl | (simp; done) | (simp [*]; done)), H', ⟨Nat.le_refl _⟩, by repeat (first | exact Drawn0.refl _ | apply Drawn0.step)⟩
  case round =>
    clear H'
    try clear c2
    try clear p2
    obtain ⟨x0_1, x5_1, x8_1, rfl, rfl, rfl, HA, HK1, ⟨m1, rfl⟩⟩ := hrel
    cases gk with
    | zero => exact absurd HA.out (by simp [bits_turned.l0])
    | succ k1 =>
      have H := HA.out
      clear HA
      simp only [bits_turned.l0] at H
      by_cases c3 : x8_1 < (wrap64 (Int.tdiv a1 8))
      · rw [if_pos c3] at H
        have c3b0 : decide (x8_1 < (wrap64 (Int.tdiv a1 8))) = true := decide_eq_true c3
        clear c3
        have H' := Aside0.mk H
        clear H
        go_wp2
        go_roundg k1
        case measure => have := HK1.out; omega
        case rel => exact ⟨(x0_1 / 256), (Go.bits .or .i64 (wrap64 (x5_1 * 256)) (Go.bits .and .i64 x0_1 255)), (wrap64 (x8_1 + 1)), (by first | rfl | (simp; done) | (simp [*]; done)), (by first | rfl | (simp; done) | (simp [*]; done)), (by first | rfl | (simp; done) | (simp [*]; done)), H', ⟨by have := HK1.out; omega⟩, by repeat (first | exact Drawn0.refl _ | apply Drawn0.step)⟩
      · rw [if_neg c3] at H
        have c3b0 : decide (x8_1 < (wrap64 (Int.tdiv a1 8))) = false := decide_eq_false c3
        clear c3
        obtain rfl := Option.some.inj H
        go_wp2
        go_ret
        exact ⟨by first | rfl | (simp; done) | (simp [*]; done), by repeat (first | exact Drawn0.refl _ | apply Drawn0.step)⟩

/-! ### bits_Get: function 15 -/
def bits_Get.l0 : Nat → List Int → Int → Int → Bool → Int → Int → Option (Int × Int)
  | 0, _, _, _, _, _, _ => none
  | k + 1, x0, x1, x2, x3, x11, x12 => if x12 < (wrap64 (x1 + x2)) then (if 0 ≤ (wrap64 (Int.tdiv x12 8)) then (if (wrap64 (Int.tdiv x12 8)) < (x0.length : Int) then (if 0 ≤ (wrap64 (7 - (Int.tmod x12 8))) then (bits_Get.l0 k x0 x1 x2 x3 (Go.bits .or .i64 (wrap64 (x11 * 2)) (wrap64 (Go.bits .and .u8 (shr .u8 (rd x0 (wrap64 (Int.tdiv x12 8))) (wrap64 (7 - (Int.tmod x12 8)))) 1))) (wrap64 (x12 + 1))) else (none)) else (none)) else (none)) else (if x3 = true then ((bits_turned.f k x11 x2).bind fun t103 => (some (t103, 0))) else (some (x11, 0)))
def bits_Get.f (k : Nat) (l0 : List Int) (a1 : Int) (a2 : Int) (a3 : Bool) : Option (Int × Int) := (bits_asked.f k l0 a1 a2 a3).bind fun t101 => (if t101 = 0 then (bits_Get.l0 k l0 a1 a2 a3 0 a1) else (some (0, t101)))
theorem bits_Get.mono_l : ∀ k, (∀ y0 y1 y2 y3 y4 y5, LeO (bits_Get.l0 k y0 y1 y2 y3 y4 y5) (bits_Get.l0 (k + 1) y0 y1 y2 y3 y4 y5))
  | 0 => fun _ _ _ _ _ _ r h => by simp [bits_Get.l0] at h
  | k + 1 => by
    have ih0 := bits_Get.mono_l k
    · intro y0 y1 y2 y3 y4 y5
      unfold bits_Get.l0
      repeat' first
      | (with_reducible exact ih0 _ _ _ _ _ _)
      | (with_reducible exact bits_asked.mono _ _ _ _ _)
      | (with_reducible exact bits_turned.mono _ _ _)
      | (with_reducible exact LeO.refl _)
      | (with_reducible exact LeO.none _)
      | (with_reducible refine LeO.ite ?_ ?_)
      | (with_reducible refine LeO.bind ?_ (fun _ => ?_))
      | exact ih0 _ _ _ _ _ _
      | exact bits_asked.mono _ _ _ _ _
      | exact bits_turned.mono _ _ _
      | exact LeO.none _
      | refine LeO.ite ?_ ?_
      | refine LeO.bind ?_ (fun _ => ?_)
theorem bits_Get.mono : ∀ a0 a1 a2 a3 k, LeO (bits_Get.f k a0 a1 a2 a3) (bits_Get.f (k + 1) a0 a1 a2 a3) := by
  intro a0 a1 a2 a3 k
  have ih0 := bits_Get.mono_l k
  unfold bits_Get.f
  repeat' first
      | (with_reducible exact ih0 _ _ _ _ _ _)
      | (with_reducible exact bits_asked.mono _ _ _ _ _)
      | (with_reducible exact bits_turned.mono _ _ _)
      | (with_reducible exact LeO.refl _)
      | (with_reducible exact LeO.none _)
      | (with_reducible refine LeO.ite ?_ ?_)
      | (with_reducible refine LeO.bind ?_ (fun _ => ?_))
      | exact ih0 _ _ _ _ _ _
      | exact bits_asked.mono _ _ _ _ _
      | exact bits_turned.mono _ _ _
      | exact LeO.none _
      | refine LeO.ite ?_ ?_
      | refine LeO.bind ?_ (fun _ => ?_)
set_option maxHeartbeats 8000000 in
set_option maxRecDepth 100000 in
theorem bits_Get.calls (k : Nat) (A0 : Option Addr) (c0 : Nat) (l0 : List Int) (a1 : Int) (a2 : Int) (a3 : Bool) (r1 : Int) (r2 : Int) (w : World) (hr0 : Kd.C (Kd.int .u8) w A0 l0.length l0) (hc0 : l0.length ≤ c0) (h : bits_Get.f k l0 a1 a2 a3 = some (r1, r2)) :
    Calls Tryd.prog 15 #[.slice A0 l0.length c0, .int .i64 a1, .int .i64 a2, .bool a3] w fun e w' => e = .returned (.tuple #[.int .i64 r1, .int .i64 r2]) ∧ Drawn0 w w' := by
  have HR0 := Aside0.mk hr0
  have HC0 := Aside0.mk hc0
  clear hr0 hc0
  have H : ((bits_asked.f k l0 a1 a2 a3).bind fun t101 => (if t101 = 0 then (bits_Get.l0 k l0 a1 a2 a3 0 a1) else (some (0, t101)))) = some (r1, r2) := h
  clear h
  replace H := Option.bind_eq_some_iff.mp H
  obtain ⟨t101, A50, H⟩ := H
  replace H : (if t101 = 0 then (bits_Get.l0 k l0 a1 a2 a3 0 a1) else (some (0, t101))) = some (r1, r2) := H
  have A5 := Aside0.mk A50
  clear A50
  by_cases c6 : t101 = 0
  · rw [if_pos c6] at H
    have c6b0 : (t101 == 0) = true := beq_iff_eq.mpr c6
    have c6b1 : (t101 != 0) = false := bne_eq_false_iff_eq.mpr c6
    clear c6
    have H' := Aside0.mk H
    clear H
    go_enter Tryd.func15, Tryd.ntmps15
    go_wp2_with (first | ((with_reducible refine gate_callee (f := 28) rfl ?_); refine goesL_ (some 17) rfl rfl Tryd.func28 (by kernel_rfl) rfl #[.slice A0 l0.length c0, .int .i64 a1, .int .i64 a2, .bool a3] rfl (by (try simp only [List.map_toArray, List.map_cons, List.map_nil]); first | done | rfl | (simp only [List.length_drop, List.length_take]; rfl)) ?_; (with_reducible refine (bits_asked.calls k _ _ l0 a1 a2 a3 t101 _ ?side1 ?side2 A5.out).mono ?_); (case side1 => repeat (first | exact HR0.out | (with_reducible refine Kd.C_alloc ?_ _) | (with_reducible refine Kd.C_drewN ?_ _) | (with_reducible refine Kd.C_drew ?_))); (case side2 => exact HC0.out); rintro e w' ⟨rfl, ⟨nd, rfl⟩⟩; refine ⟨_, rfl, ?_⟩))
    go_loopg [11, 12] k (fun kq v11 v12 w' => ∃ (x11_1 : Int) (x12_1 : Int), v11 = .int .i64 x11_1 ∧ v12 = .int .i64 x12_1 ∧ Aside0 (bits_Get.l0 kq l0 a1 a2 a3 x11_1 x12_1 = some (r1, r2)) ∧ Aside0 (kq ≤ k) ∧ Drawn0 w w')
    case atStart => exact ⟨(0), (a1), (by first | rfl | (simp; done) | (simp [*]; done)), (by first | rfl | (simp; done) | (simp [*]; done)), H', ⟨Nat.le_refl _⟩, by repeat (first | exact Drawn0.refl _ | apply Drawn0.step)⟩
    case round =>
      clear H'
      try clear c1
      try clear c2
      try clear p2
      try clear c6
      try clear c6b0
      try clear c6b1
      obtain ⟨x11_1, x12_1, rfl, rfl, HA, HK1, ⟨m1, rfl⟩⟩ := hrel
      cases gk with
      | zero => exact absurd HA.out (by simp [bits_Get.l0])
      | succ k1 =>
        have H := HA.out
        clear HA
        simp only [bits_Get.l0] at H
        by_cases c7 : x12_1 < (wrap64 (a1 + a2))
        · rw [if_pos c7] at H
          have c7b0 : decide (x12_1 < (wrap64 (a1 + a2))) = true := decide_eq_true c7
          clear c7
          obtain ⟨ji8, hji8⟩ : ∃ j_ : Int, (wrap64 (Int.tdiv x12_1 8)) = j_ := ⟨_, rfl⟩
          replace H : (if 0 ≤ (ji8) then (if (ji8) < (l0.length : Int) then (if 0 ≤ (wrap64 (7 - (Int.tmod x12_1 8))) then (bits_Get.l0 k1 l0 a1 a2 a3 (Go.bits .or .i64 (wrap64 (x11_1 * 2)) (wrap64 (Go.bits .and .u8 (shr .u8 (rd l0 (ji8)) (wrap64 (7 - (Int.tmod x12_1 8)))) 1))) (wrap64 (x12_1 + 1))) else (none)) else (none)) else (none)) = some (r1, r2) := by first | (rw [hji8] at H; exact H) | (simp only [hji8] at H ⊢; exact H)
          have hji8w : (IntKind.i64.wrap (Int.tdiv x12_1 8)) = ji8 := (i64_w _).trans hji8
          by_cases c9 : 0 ≤ (ji8)
          · rw [if_pos c9] at H
            have c9b0 : decide (0 ≤ (ji8)) = true := decide_eq_true c9
            clear c9
            by_cases c10 : (ji8) < (l0.length : Int)
            · rw [if_pos c10] at H
              have c10b0 : decide ((ji8) < (l0.length : Int)) = true := decide_eq_true c10
              clear c10
              obtain ⟨ji11, hji11⟩ : ∃ j_ : Int, (wrap64 (7 - (Int.tmod x12_1 8))) = j_ := ⟨_, rfl⟩
              replace H : (if 0 ≤ (ji11) then (bits_Get.l0 k1 l0 a1 a2 a3 (Go.bits .or .i64 (wrap64 (x11_1 * 2)) (wrap64 (Go.bits .and .u8 (shr .u8 (rd l0 (ji8)) (ji11)) 1))) (wrap64 (x12_1 + 1))) else (none)) = some (r1, r2) := by first | (rw [hji11] at H; exact H) | (simp only [hji11] at H ⊢; exact H)
              have hji11w : (IntKind.i64.wrap (7 - (Int.tmod x12_1 8))) = ji11 := (i64_w _).trans hji11
              by_cases c12 : 0 ≤ (ji11)
              · rw [if_pos c12] at H
                have c12b0 := eq_true c12
                have c12b1 : decide (0 ≤ (ji11)) = true := decide_eq_true c12
                clear c12
                obtain ⟨ji13, hji13⟩ : ∃ j_ : Int, (shr .u8 (rd l0 (ji8)) (ji11)) = j_ := ⟨_, rfl⟩
                replace H : (bits_Get.l0 k1 l0 a1 a2 a3 (Go.bits .or .i64 (wrap64 (x11_1 * 2)) (wrap64 (Go.bits .and .u8 (ji13) 1))) (wrap64 (x12_1 + 1))) = some (r1, r2) := by first | (rw [hji13] at H; exact H) | (simp only [hji13] at H ⊢; exact H)
                have hji13_ : ((rd l0 (ji8)) / 2 ^ min (ji11).toNat 8) = ji13 := hji13
                have hji13z : (ji11) ≤ 8 → ((rd l0 (ji8)) / 2 ^ (ji11).toNat) = ji13 := shr_small hji13
                have H' := Aside0.mk H
                clear H
                have p102 : 0 ≤ ((ji8) : Int) := of_decide_eq_true (by first | (with_reducible assumption) | assumption)
                have q102 : (ji8) < (l0.length : Int) := of_decide_eq_true (by first | (with_reducible assumption) | assumption)
                obtain ⟨ad102, e102, hx102_0⟩ := Kd.at_int HR0.out (ji8) p102 q102
                cases e102
                replace p102 := eq_true p102
                replace q102 := eq_true q102
                go_wp2
                go_roundg k1
                case measure => have := HK1.out; omega
                case rel => exact ⟨(Go.bits .or .i64 (wrap64 (x11_1 * 2)) (wrap64 (Go.bits .and .u8 (ji13) 1))), (wrap64 (x12_1 + 1)), (by first | rfl | (simp; done) | (simp only [← hji13] <;> (first | rfl | simp)) | (simp [*]; done)), (by first | rfl | (simp; done) | (simp [*]; done)), H', ⟨by have := HK1.out; omega⟩, by repeat (first | exact Drawn0.refl _ | apply Drawn0.step)⟩
              · rw [if_neg c12] at H
                exact absurd H (by simp)
            · rw [if_neg c10] at H
              exact absurd H (by simp)
          · rw [if_neg c9] at H
            exact absurd H (by simp)
        · rw [if_neg c7] at H
          have c7b0 : decide (x12_1 < (wrap64 (a1 + a2))) = false := decide_eq_false c7
          clear c7
          by_cases c14 : a3 = true
          · subst c14
            have H1 : ((bits_turned.f k1 x11_1 a2).bind fun t103 => (some (t103, 0))) = some (r1, r2) := by rw [if_pos rfl] at H; exact H
            clear H
            have H := H1
            clear H1
            replace H := Option.bind_eq_some_iff.mp H
            obtain ⟨t103, A150, H⟩ := H
            replace H : (some (t103, 0)) = some (r1, r2) := H
            have A15 := Aside0.mk A150
            clear A150
            simp only [Option.some.injEq, Prod.mk.injEq] at H
            obtain ⟨rfl, rfl⟩ := H
            go_wp2_with (first | ((with_reducible refine gate_callee (f := 29) rfl ?_); refine goesL_ (some 46) rfl rfl Tryd.func29 (by kernel_rfl) rfl #[.int .i64 x11_1, .int .i64 a2] rfl (by (try simp only [List.map_toArray, List.map_cons, List.map_nil]); first | done | rfl | (simp only [List.length_drop, List.length_take]; rfl)) ?_; (with_reducible refine (bits_turned.calls k1 x11_1 a2 t103 _ A15.out).mono ?_); rintro e w' ⟨rfl, ⟨nd, rfl⟩⟩; refine ⟨_, rfl, ?_⟩))
            go_ret2
            exact ⟨by first | rfl | (simp; done) | (simp [*]; done), by repeat (first | exact Drawn0.refl _ | apply Drawn0.step)⟩
          · replace c14 := Bool.eq_false_iff.mpr c14
            subst c14
            have H1 : (some (x11_1, 0)) = some (r1, r2) := by rw [if_neg (show ¬ (false = true) by decide)] at H; exact H
            clear H
            have H := H1
            clear H1
            simp only [Option.some.injEq, Prod.mk.injEq] at H
            obtain ⟨rfl, rfl⟩ := H
            go_wp2
            go_ret2
            exact ⟨by first | rfl | (simp; done) | (simp [*]; done), by repeat (first | exact Drawn0.refl _ | apply Drawn0.step)⟩
  · rw [if_neg c6] at H
    have c6b0 : (t101 == 0) = false := beq_eq_false_iff_ne.mpr c6
    have c6b1 : (t101 != 0) = true := bne_iff_ne.mpr c6
    simp only [Option.some.injEq, Prod.mk.injEq] at H
    obtain ⟨rfl, rfl⟩ := H
    go_enter Tryd.func15, Tryd.ntmps15
    go_wp2_with (first | ((with_reducible refine gate_callee (f := 28) rfl ?_); refine goesL_ (some 17) rfl rfl Tryd.func28 (by kernel_rfl) rfl #[.slice A0 l0.length c0, .int .i64 a1, .int .i64 a2, .bool a3] rfl (by (try simp only [List.map_toArray, List.map_cons, List.map_nil]); first | done | rfl | (simp only [List.length_drop, List.length_take]; rfl)) ?_; (with_reducible refine (bits_asked.calls k _ _ l0 a1 a2 a3 t101 _ ?side1 ?side2 A5.out).mono ?_); (case side1 => repeat (first | exact HR0.out | (with_reducible refine Kd.C_alloc ?_ _) | (with_reducible refine Kd.C_drewN ?_ _) | (with_reducible refine Kd.C_drew ?_))); (case side2 => exact HC0.out); rintro e w' ⟨rfl, ⟨nd, rfl⟩⟩; refine ⟨_, rfl, ?_⟩))
    go_ret2
    exact ⟨by first | rfl | (simp; done) | (simp [*]; done), by repeat (first | exact Drawn0.refl _ | apply Drawn0.step)⟩

/-! ### bits_sevens: function 30 -/
-- EXT HIDDEN
section
open Go.Shelf Hand
attribute [local go_sem] Oper.semAt_some
set_option maxHeartbeats 1000000 in
theorem bits_sevens.in_ (F : Fence) (n : Nat) (hF : F.fn 30) (hro : F.round = none) (x : Int) (w : World) :
    CallsIn F n Tryd.prog 30 #[.int .i64 x] w fun e w' => e = .returned (.func (.func 38) #[] #[.pointer (some ⟨w.heap.size, 0, none⟩)]) ∧ w' = w.alloc (.cells #[.int .i64 x] 3) := by
  refine callsIn_of_wp Tryd.func30 rfl hF ?_ hro
  simp only [Tryd.ntmps30, List.size_toArray, List.length_cons, List.length_nil, Nat.reduceAdd, Nat.reduceSub, Array.replicate_succ, Array.replicate_zero, List.push_toArray, List.append_toArray, List.nil_append, List.cons_append]
  gi_wp2
  go_ret
  exact ⟨rfl, rfl⟩
end
section
open Go.Shelf Hand
attribute [local go_sem] Oper.semAt_some
/-- What comes of a number, seven bits by seven. -/
def isSev : Int → List (Int × Bool) → Prop
  | _, [] => False
  | n, x :: r => x = (Go.bits .and .i64 n 127, decide (127 < n)) ∧ if 127 < n then isSev (n / 128) r else r = []
/-- The iterator's own steps: it writes its variable. -/
def SevSt (b : Nat) (t : TypeId) (A B : World) : Prop := ∃ u v, Boxed A b t u ∧ B = A.setCell ⟨b, 0, none⟩ v
/-- What a round must keep: the iterator's variable. -/
def SevKp (b : Nat) (t : TypeId) (A B : World) : Prop := ∀ u, Boxed A b t u → Boxed B b t u
def sevM (b : Nat) (w : World) : Nat := match w.cell? ⟨b, 0, none⟩ with | some (.int _ m) => m.toNat | _ => 0
theorem sevM_eq {b : Nat} {t : TypeId} {w : World} {m : Int} (h : Boxed w b t (.int .i64 m)) : sevM b w = m.toNat := by
  unfold sevM; rw [h.cell]
set_option maxRecDepth 100000 in
set_option maxHeartbeats 2000000 in
theorem bits_sevens_1.in_ (F : Fence) (n : Nat) (hF : F.fn 38) (hro : F.round = none) (hn : 1 ≤ n) (l b : Nat) (x : Int) (hx0 : 0 ≤ x) (hx1 : x < 562949953421312) (J Jx : List (Int × Bool) → World → Prop)
    (hJs : ∀ s A B, J s A → SevSt b 3 A B → J s B)
    (hY : ∀ pre y W, J pre W → pre.length < 7 → YieldAt F (n - 1) Tryd.prog l #[.int .i64 y.1, .bool y.2] W fun e W' =>
      (e = .returned (.bool true) ∧ J (pre ++ [y]) W' ∧ SevKp b 3 W W') ∨ (e = .returned (.bool false) ∧ Jx (pre ++ [y]) W'))
    (W : World) (hb : Boxed W b 3 (.int .i64 x)) (h0 : J [] W) :
    CallsIn F n Tryd.prog 38 #[.func (.yield l) #[] #[], .pointer (some ⟨b, 0, none⟩)] W fun e W' => (∃ v, e = .returned v) ∧
      ((∃ ys, isSev x ys ∧ J ys W') ∨ (∃ pre, True ∧ Jx pre W')) := by
  refine callsIn_of_wp Tryd.func38 rfl hF ?_ hro
  simp only [Tryd.ntmps38, List.size_toArray, List.length_cons, List.length_nil, Nat.reduceAdd, Nat.reduceSub, Array.replicate_succ, Array.replicate_zero, List.push_toArray, List.append_toArray, List.nil_append, List.cons_append]
  gi_wp2
  gi_loopw [3] (fun (_ : Value) (wr : World) => ∃ (pre : List (Int × Bool)) (m : Int), 0 ≤ m ∧ (pre = [] ∨ 1 ≤ m) ∧ pre.length ≤ 6 ∧ m < 128 ^ (7 - pre.length) ∧ Boxed wr b 3 (.int .i64 m) ∧ J pre wr ∧ ∀ r, isSev m r → isSev x (pre ++ r)) (fun (_ : Value) (wr : World) => sevM b wr)
  case atStart => exact ⟨[], x, hx0, .inl rfl, by simp, by simpa using hx1, hb, h0, fun r h => h⟩
  case round =>
    obtain ⟨pre, m, hm0, hpm, hpl, hml, hbm, hJ, hS⟩ := hrel
    obtain ⟨fn, tmps, assign, body, hy, hR⟩ := hY pre (Go.bits .and .i64 m 127, decide (127 < m)) wr hJ (by omega)
    have hc := hbm.cell
    have hf := hbm.frozen
    have HS : Hid (∀ r, isSev m r → isSev x (pre ++ r)) := hS
    clear hS
    have hmu := sevM_eq hbm
    have HM : Hid (sevM b wr = m.toNat) := hmu
    clear hmu
    dsimp only at hy
    have hJ3' : ∀ A B, J (pre ++ [(Go.bits .and .i64 m 127, decide (127 < m))]) A → SevSt b 3 A B → J (pre ++ [(Go.bits .and .i64 m 127, decide (127 < m))]) B := fun A B => hJs _ A B
    have HJ := Lib.hid hJ3'
    clear hJ3'
    gi_wp2
    refine hR.mono ?_
    rintro e W3 (⟨rfl, hJ3, hk3⟩ | ⟨rfl, hJx3⟩)
    · have hb3 := hk3 _ hbm
      have hc3 := hb3.cell
      have hf3 := hb3.frozen
      have HJ3 := Lib.hid hJ3
      clear hJ3
      by_cases hlt : 127 < m
      · have HS4 := Lib.hid (show ∀ r, isSev (m / 128) r → isSev x ((pre ++ [(Go.bits .and .i64 m 127, decide (127 < m))]) ++ r) from fun r hr => by
          rw [List.append_assoc]
          exact HS.out _ ⟨rfl, by rw [if_pos hlt]; exact hr⟩)
        have hd : decide (127 < m) = true := decide_eq_true hlt
        gi_wp2
        have hb4 := hb3.set (.int .i64 (m / 128))
        have hJ4 := HJ.out _ _ HJ3.out ⟨_, .int .i64 (m / 128), hb3, rfl⟩
        go_roundw
        case rel =>
          refine ⟨_, m / 128, by omega, .inr (by omega), ?_, ?_, hb4, hJ4, HS4.out⟩
          · rw [List.length_append, List.length_singleton]
            rcases Nat.lt_or_ge pre.length 6 with h | h
            · omega
            · have e6 : pre.length = 6 := by omega
              rw [e6] at hml
              simp at hml
              omega
          · rw [List.length_append, List.length_singleton]
            have e7 : 7 - pre.length = (7 - (pre.length + 1)) + 1 := by omega
            rw [e7, Int.pow_succ] at hml
            generalize (128 : Int) ^ (7 - (pre.length + 1)) = q at *
            omega
        case measure =>
          rw [sevM_eq hb4, HM.out]
          omega
      · have HS4 := Lib.hid (HS.out [(Go.bits .and .i64 m 127, decide (127 < m))] ⟨rfl, by rw [if_neg hlt]⟩)
        have hd : decide (127 < m) = false := decide_eq_false hlt
        gi_wp2
        go_end0
        exact ⟨⟨_, rfl⟩, .inl ⟨_, HS4.out, HJ3.out⟩⟩
    · gi_wp2
      go_end0
      exact ⟨⟨_, rfl⟩, .inr ⟨_, trivial, hJx3⟩⟩
end

/-! ### bits_Seven: function 16 -/
-- EXT rounds=0 making=1
section
open Go.Shelf Hand
attribute [local go_sem] Oper.semAt_some
def sevByte (x : Int × Bool) : Int := (if x.2 = true then wrap64 (x.1 + 128) else x.1) % 256
def sevL : Nat → Int → List (Int × Bool)
  | 0, _ => []
  | k + 1, n => (Go.bits .and .i64 n 127, decide (127 < n)) :: if 127 < n then sevL k (n / 128) else []
theorem sevL_of : ∀ (k : Nat) (n : Int) (xs : List (Int × Bool)), isSev n xs → 0 ≤ n → n < 128 ^ (k + 1) → xs = sevL (k + 1) n
  | _, _, [], h, _, _ => h.elim
  | 0, n, x :: r, ⟨hx, hr⟩, _, h1 => by
    rw [if_neg (by simp at h1; omega)] at hr
    subst hr hx
    simp only [sevL]
    rw [if_neg (by simp at h1; omega)]
  | k + 1, n, x :: r, ⟨hx, hr⟩, h0, h1 => by
    subst hx
    simp only [sevL]
    by_cases c : 127 < n
    · rw [if_pos c] at hr ⊢
      have := sevL_of k (n / 128) r hr (by omega) (by
        rw [Int.pow_succ] at h1
        generalize (128 : Int) ^ (k + 1) = q at *
        omega)
      rw [this]
      rfl
    · rw [if_neg c] at hr ⊢
      rw [hr]
def bits_Seven.f (a0 : Int) : Option (List Int × Int) := if a0 < 0 then some ([], 1) else if a0 ≥ 281474976710656 then some ([], 1) else some ((sevL 7 a0).map sevByte, 0)
theorem sev_info : (Tryd.prog.info? 5).map (fun i => (i.zero, i.size, i.bytes)) = some (some (.int .u8 0), 1, 1) := by kernel_rfl
/-- The caller's cells: its slice in a box, and nothing below turned. -/
def SevI (w : World) (t e : TypeId) (pre : List (Int × Bool)) (W : World) : Prop :=
  (∃ v, Boxed W w.heap.size t v ∧ W.ownsRow w.heap.size e 1 v pre.length ((pre.map sevByte).map (Value.int .u8))) ∧ Below w.heap.size w W
set_option maxRecDepth 100000 in
set_option maxHeartbeats 4000000 in
theorem bits_Seven.calls (a0 : Int) (r1 : List Int) (r2 : Int) (w : World) (h : bits_Seven.f a0 = some (r1, r2)) :
    Calls Tryd.prog 16 #[.int .i64 a0] w fun e w' => ∃ v0_ : Value, e = .returned (.tuple #[v0_, .int .i64 r2]) ∧ Kd.R (Kd.int .u8) 5 w' w.heap.size (fun _ => True) v0_ r1 ∧ Below w.heap.size w w' := by
  unfold bits_Seven.f at h
  by_cases c1 : a0 < 0
  · rw [if_pos c1] at h
    simp only [Option.some.injEq, Prod.mk.injEq] at h
    obtain ⟨rfl, rfl⟩ := h
    have c1b : decide (a0 < 0) = true := decide_eq_true c1
    go_enter Tryd.func16, Tryd.ntmps16
    go_wp2
    go_ret2
    exact ⟨.slice none 0 0, rfl, Kd.R_nil _ _ _ _ _, Below.refl _ _⟩
  rw [if_neg c1] at h
  have c1b : decide (a0 < 0) = false := decide_eq_false c1
  by_cases c2 : a0 ≥ 281474976710656
  · rw [if_pos c2] at h
    simp only [Option.some.injEq, Prod.mk.injEq] at h
    obtain ⟨rfl, rfl⟩ := h
    have c2b : decide (281474976710656 ≤ a0) = true := decide_eq_true c2
    go_enter Tryd.func16, Tryd.ntmps16
    go_wp2
    go_ret2
    exact ⟨.slice none 0 0, rfl, Kd.R_nil _ _ _ _ _, Below.refl _ _⟩
  rw [if_neg c2] at h
  have c2b : decide (281474976710656 ≤ a0) = false := decide_eq_false c2
  simp only [Option.some.injEq, Prod.mk.injEq] at h
  obtain ⟨h1, rfl⟩ := h
  have H1 := Lib.hid h1
  clear h1
  obtain ⟨i0, hi, hz0, hz1, hz2⟩ := info_parts sev_info
  refine (callsIn_wide (n := 3)).1 ?_
  refine callsIn_of_wp_marks Tryd.func16 rfl trivial ?_ rfl
  simp only [Tryd.ntmps16, List.size_toArray, List.length_cons, List.length_nil, Nat.reduceAdd, Nat.reduceSub, Array.replicate_succ, Array.replicate_zero, List.push_toArray, List.append_toArray, List.nil_append, List.cons_append]
  gi_wp2_with (refine ⟨trivial, ?_⟩; gi_at_call 30; refine (bits_sevens.in_ Fence.wide _ trivial rfl _ _).mono ?_; rintro e w' ⟨rfl, rfl⟩)
  have hO : Boxed ((w.alloc (.cells #[.slice none 0 0] 22)).alloc (.cells #[.int .i64 a0] 3)) w.heap.size 22 (.slice none 0 0) := (Boxed.new w _ _).alloc _
  have hN : Boxed ((w.alloc (.cells #[.slice none 0 0] 22)).alloc (.cells #[.int .i64 a0] 3)) (w.heap.size + 1) 3 (.int .i64 a0) := by
    have := Boxed.new (w.alloc (.cells #[.slice none 0 0] 22)) 3 (.int .i64 a0)
    rwa [World.size_alloc] at this
  have hB0 : Below w.heap.size w ((w.alloc (.cells #[.slice none 0 0] 22)).alloc (.cells #[.int .i64 a0] 3)) := ((Below.refl _ w).alloc (Nat.le_refl _) _).alloc (by simp) _
  have hsz : ((w.alloc (.cells #[.slice none 0 0] 22)).alloc (.cells #[.int .i64 a0] 3)).heap.size = w.heap.size + 2 := by simp
  generalize (w.alloc (.cells #[.slice none 0 0] 22)).alloc (.cells #[.int .i64 a0] 3) = W0 at *
  refine range_st rfl (by omega) (gf := 38) (lb := #[.pointer (some ⟨w.heap.size + 1, 0, none⟩)]) rfl trivial (enters_of Tryd.func38 (by kernel_rfl) rfl)
    (encs := fun y : Int × Bool => #[.int .i64 y.1, .bool y.2]) (Kp := SevKp (w.heap.size + 1) 3) (St := SevSt (w.heap.size + 1) 3) (S := isSev a0) (Sp := fun _ => True) (N := 7)
    ?seq (fun h k u hu => k u (h u hu)) ?kb (fun _ => rfl) ?st (SevI w 22 5) (fun _ _ _ => False) ?hI (fun _ _ _ _ _ hs _ _ => hs) ?hIs (fun _ _ _ _ hs _ => hs) ?h0
    (fun x => { tmps := #[.int .i64 a0, undef, .slice none 0 0, .int .i64 0, .pointer (some ⟨w.heap.size, 0, none⟩), .int .i64 x.1, .bool x.2, .int .i64 a0, .bool false, .bool false, .int .i64 a0, .bool false, .bool false, .int .i64 a0, .func (.func 38) #[] #[.pointer (some ⟨w.heap.size + 1, 0, none⟩)], .int .i64 x.1, .bool x.2, undef, undef, undef, undef, undef, undef, undef, undef, undef], defers := [] }) ?assign ?body ?done ?stop
  case seq =>
    intro l J Jx W hW _ _ hJs _ hY h0
    exact bits_sevens_1.in_ Fence.wide 2 trivial rfl (by omega) l (w.heap.size + 1) a0 (by omega) (by omega) J Jx hJs hY W ((hW.block _ (by omega)).trans hN) h0
  case kb =>
    intro W l o o' hl ho hc _ u hu
    have hne : w.heap.size + 1 ≠ l := by
      intro e
      subst e
      rw [show W.heap[w.heap.size + 1]? = _ from hu] at ho
      cases ho
      cases hc
    exact (World.putObj_heap_other hne).trans hu
  case st =>
    rintro A B ⟨u, v, _, rfl⟩
    exact KeepsOthers.setCell _ _ _
  case hI =>
    refine OwnFrom.and (Own.from ?_ _) (ownFrom_below (Nat.le_refl _) (by omega))
    have h := holdsRow_own w.heap.size w.heap.size 22 5 1 (fun pre : List (Int × Bool) => pre.length) (fun pre => (pre.map sevByte).map (Value.int .u8)) (fun _ _ => True)
    intro s A B row hs hg hr
    obtain ⟨v, h1, h2⟩ := hs
    obtain ⟨v', h1', h2', _⟩ := h s A B row ⟨v, h1, h2, trivial⟩ hg hr
    exact ⟨v', h1', h2'⟩
  case hIs =>
    rintro s A B ⟨⟨v, h1, h2⟩, hB⟩ ⟨u, u', hu, rfl⟩
    exact ⟨⟨v, h1.other (by omega) u', h2.kept (grownBy_setCell' A (w.heap.size + 1) u') (.inr fun e => hu.not_row (by decide) h2 e.symm)⟩, hB.setCell (p := ⟨w.heap.size + 1, 0, none⟩) (by simp) _⟩
  case h0 => exact ⟨⟨_, hO, World.ownsRow_nil _ _ _ _⟩, hB0⟩
  case assign =>
    intro l x W K hK
    gi_wp2
    exact hK
  case body =>
    rintro l pre ⟨x1, x2⟩ W ⟨⟨v, hv, hrow⟩, hB⟩ hlen
    have hc := hv.cell
    have hf := hv.frozen
    have hle : w.heap.size ≤ W.heap.size := hB.size
    have HS : Hid (sevByte (x1, x2) = sevByte (x1, x2)) := rfl
    clear HS
    cases x2
    · gi_wp2_with (gi_at_builtin; refine wpListIn_append_own _ rfl _ _ 22 rfl w.heap.size 5 i0 (.int .u8 0) 1 1 Tryd.underlying22 hi hz0 hz1 hz2 rfl (by decide) _ _ _ rfl (hrow.alloc _) ⟨W.heap.size, 0, none⟩ 1 1 [.int .u8 (x1 % 256)] rfl rfl (cell_one_new _ _ _) (by simp [Value.oneCell']) (by unfold maxLen; omega) (by omega) (by simp; omega) ?_; intro v' w1 hown' hgrow _; obtain ⟨g', cap', rfl⟩ := ownsRow_succ hown'; obtain ⟨hv1, hv2, hr2, hk2, hb2⟩ := hv.appended (by decide) hrow hB.size (Nat.le_refl _) hown' hgrow; have hc1 := hv1.cell; have hf1 := hv1.frozen)
      refine ⟨hk2.from _, fun u hu => ((hu.alloc _).kept hgrow (hu.not_row (by decide) hrow)).other (by omega) _, ⟨⟨_, hv2, ?_⟩, hB.trans hb2⟩⟩
      rw [List.map_append, List.map_append, List.length_append]
      exact hr2
    · gi_wp2_with (gi_at_builtin; refine wpListIn_append_own _ rfl _ _ 22 rfl w.heap.size 5 i0 (.int .u8 0) 1 1 Tryd.underlying22 hi hz0 hz1 hz2 rfl (by decide) _ _ _ rfl (hrow.alloc _) ⟨W.heap.size, 0, none⟩ 1 1 [.int .u8 (wrap64 (x1 + 128) % 256)] rfl rfl (cell_one_new _ _ _) (by simp [Value.oneCell']) (by unfold maxLen; omega) (by omega) (by simp; omega) ?_; intro v' w1 hown' hgrow _; obtain ⟨g', cap', rfl⟩ := ownsRow_succ hown'; obtain ⟨hv1, hv2, hr2, hk2, hb2⟩ := hv.appended (by decide) hrow hB.size (Nat.le_refl _) hown' hgrow; have hc1 := hv1.cell; have hf1 := hv1.frozen)
      refine ⟨hk2.from _, fun u hu => ((hu.alloc _).kept hgrow (hu.not_row (by decide) hrow)).other (by omega) _, ⟨⟨_, hv2, ?_⟩, hB.trans hb2⟩⟩
      rw [List.map_append, List.map_append, List.length_append]
      exact hr2
  case done =>
    rintro D xs W hD hS ⟨⟨v, hv, hrow⟩, hB⟩ hK
    have hc := hv.cell
    have hf := hv.frozen
    gi_wp2
    refine ⟨by simp, .inl ⟨_, _, rfl, run_takeDeferred hK, ?_⟩⟩
    have e := sevL_of 6 a0 xs hS (by omega) (by simp; omega)
    refine ⟨_, results_tmp2 rfl _ _ _, v, rfl, ?_, hB.trans (belowK_b (w := w) (Nat.le_refl _) W D _ _ (by omega) hK rfl rfl)⟩
    rw [← H1.out, ← e]
    have hr := ownsRow_putObj hrow (.deferred none) hK rfl
    rw [show xs.length = (xs.map sevByte).length by simp] at hr
    exact Kd.R_of_own (h1 := fun _ => rfl) (ok := fun _ => True) hr (fun _ _ => trivial)
  case stop =>
    rintro D c pre W _ _ h _
    exact h.elim
end

/-! ### bits_folded: function 31 -/
def bits_folded.l0 : Nat → Int → Option (Int)
  | 0, _ => none
  | k + 1, x0 => if x0 > 65535 then (bits_folded.l0 k (wrap64 ((x0 / 65536) + (Go.bits .and .i64 x0 65535)))) else (some x0)
def bits_folded.f (k : Nat) (a0 : Int) : Option (Int) := bits_folded.l0 k a0
theorem bits_folded.mono_l : ∀ k, (∀ y0, LeO (bits_folded.l0 k y0) (bits_folded.l0 (k + 1) y0))
  | 0 => fun _ r h => by simp [bits_folded.l0] at h
  | k + 1 => by
    have ih0 := bits_folded.mono_l k
    · intro y0
      unfold bits_folded.l0
      repeat' first
      | (with_reducible exact ih0 _)
      | (with_reducible exact LeO.refl _)
      | (with_reducible exact LeO.none _)
      | (with_reducible refine LeO.ite ?_ ?_)
      | (with_reducible refine LeO.bind ?_ (fun _ => ?_))
      | exact ih0 _
      | exact LeO.none _
      | refine LeO.ite ?_ ?_
      | refine LeO.bind ?_ (fun _ => ?_)
theorem bits_folded.mono : ∀ a0 k, LeO (bits_folded.f k a0) (bits_folded.f (k + 1) a0) := by
  intro a0 k
  have ih0 := bits_folded.mono_l k
  unfold bits_folded.f
  repeat' first
      | (with_reducible exact ih0 _)
      | (with_reducible exact LeO.refl _)
      | (with_reducible exact LeO.none _)
      | (with_reducible refine LeO.ite ?_ ?_)
      | (with_reducible refine LeO.bind ?_ (fun _ => ?_))
      | exact ih0 _
      | exact LeO.none _
      | refine LeO.ite ?_ ?_
      | refine LeO.bind ?_ (fun _ => ?_)
set_option maxHeartbeats 8000000 in
set_option maxRecDepth 100000 in
theorem bits_folded.calls (k : Nat) (a0 : Int) (r : Int) (w : World) (h : bits_folded.f k a0 = some r) :
    Calls Tryd.prog 31 #[.int .i64 a0] w fun e w' => e = .returned (.int .i64 r) ∧ Drawn0 w w' := by
  have H : (bits_folded.l0 k a0) = some r := h
  clear h
  have H' := Aside0.mk H
  clear H
  go_enter Tryd.func31, Tryd.ntmps31
  go_wp2
  go_loopg [0] k (fun kq v0 w' => ∃ (x0_1 : Int), v0 = .int .i64 x0_1 ∧ Aside0 (bits_folded.l0 kq x0_1 = some r) ∧ Aside0 (kq ≤ k) ∧ Drawn0 w w')
  case atStart => exact ⟨(a0), (by first | rfl | (simp; done) | (simp [*]; done)), H', ⟨Nat.le_refl _⟩, by repeat (first | exact Drawn0.refl _ | apply Drawn0.step)⟩
  case round =>
    clear H'
    obtain ⟨x0_1, rfl, HA, HK1, ⟨m1, rfl⟩⟩ := hrel
    cases gk with
    | zero => exact absurd HA.out (by simp [bits_folded.l0])
    | succ k1 =>
      have H := HA.out
      clear HA
      simp only [bits_folded.l0] at H
      by_cases c2 : x0_1 > 65535
      · rw [if_pos c2] at H
        have c2b0 : decide (65535 < x0_1) = true := decide_eq_true c2
        clear c2
        have H' := Aside0.mk H
        clear H
        go_wp2
        go_roundg k1
        case measure => have := HK1.out; omega
        case rel => exact ⟨(wrap64 ((x0_1 / 65536) + (Go.bits .and .i64 x0_1 65535))), (by first | rfl | (simp; done) | (simp [*]; done)), H', ⟨by have := HK1.out; omega⟩, by repeat (first | exact Drawn0.refl _ | apply Drawn0.step)⟩
      · rw [if_neg c2] at H
        have c2b0 : decide (65535 < x0_1) = false := decide_eq_false c2
        clear c2
        obtain rfl := Option.some.inj H
        go_wp2
        go_ret
        exact ⟨by first | rfl | (simp; done) | (simp [*]; done), by repeat (first | exact Drawn0.refl _ | apply Drawn0.step)⟩

/-! ### bits_Sum: function 17 -/
def bits_Sum.l0 : Nat → Int → List Int → Int → Int → Option (Int)
  | 0, _, _, _, _ => none
  | k + 1, x3, x6, x7, x8 => if x8 < x7 then (if 0 ≤ x8 then (if x8 < (x6.length : Int) then (if (Int.tmod x8 2) = 0 then ((bits_folded.f k (wrap64 (x3 + (wrap64 ((wrap64 (rd x6 x8)) * 256))))).bind fun t105 => (bits_Sum.l0 k t105 x6 x7 (wrap64 (x8 + 1)))) else ((bits_folded.f k (wrap64 (x3 + (wrap64 (rd x6 x8))))).bind fun t106 => (bits_Sum.l0 k t106 x6 x7 (wrap64 (x8 + 1))))) else (none)) else (none)) else (some (Go.bits .and .i64 (Go.bits .xor .i64 (-1) x3) 65535))
def bits_Sum.f (k : Nat) (l0 : List Int) : Option (Int) := bits_Sum.l0 k 0 l0 (l0.length : Int) 0
theorem bits_Sum.mono_l : ∀ k, (∀ y0 y1 y2 y3, LeO (bits_Sum.l0 k y0 y1 y2 y3) (bits_Sum.l0 (k + 1) y0 y1 y2 y3))
  | 0 => fun _ _ _ _ r h => by simp [bits_Sum.l0] at h
  | k + 1 => by
    have ih0 := bits_Sum.mono_l k
    · intro y0 y1 y2 y3
      unfold bits_Sum.l0
      repeat' first
      | (with_reducible exact ih0 _ _ _ _)
      | (with_reducible exact bits_folded.mono _ _)
      | (with_reducible exact LeO.refl _)
      | (with_reducible exact LeO.none _)
      | (with_reducible refine LeO.ite ?_ ?_)
      | (with_reducible refine LeO.bind ?_ (fun _ => ?_))
      | exact ih0 _ _ _ _
      | exact bits_folded.mono _ _
      | exact LeO.none _
      | refine LeO.ite ?_ ?_
      | refine LeO.bind ?_ (fun _ => ?_)
theorem bits_Sum.mono : ∀ a0 k, LeO (bits_Sum.f k a0) (bits_Sum.f (k + 1) a0) := by
  intro a0 k
  have ih0 := bits_Sum.mono_l k
  unfold bits_Sum.f
  repeat' first
      | (with_reducible exact ih0 _ _ _ _)
      | (with_reducible exact bits_folded.mono _ _)
      | (with_reducible exact LeO.refl _)
      | (with_reducible exact LeO.none _)
      | (with_reducible refine LeO.ite ?_ ?_)
      | (with_reducible refine LeO.bind ?_ (fun _ => ?_))
      | exact ih0 _ _ _ _
      | exact bits_folded.mono _ _
      | exact LeO.none _
      | refine LeO.ite ?_ ?_
      | refine LeO.bind ?_ (fun _ => ?_)
set_option maxHeartbeats 8000000 in
set_option maxRecDepth 100000 in
theorem bits_Sum.calls (k : Nat) (A0 : Option Addr) (c0 : Nat) (l0 : List Int) (r : Int) (w : World) (hr0 : Kd.C (Kd.int .u8) w A0 l0.length l0) (hc0 : l0.length ≤ c0) (h : bits_Sum.f k l0 = some r) :
    Calls Tryd.prog 17 #[.slice A0 l0.length c0] w fun e w' => e = .returned (.int .i64 r) ∧ Drawn0 w w' := by
  have HR0 := Aside0.mk hr0
  have HC0 := Aside0.mk hc0
  clear hr0 hc0
  have H : (bits_Sum.l0 k 0 l0 (l0.length : Int) 0) = some r := h
  clear h
  have H' := Aside0.mk H
  clear H
  go_enter Tryd.func17, Tryd.ntmps17
  go_wp2
  go_loopg [3, 8] k (fun kq v3 v8 w' => ∃ (x3_1 : Int) (x8_1 : Int), v3 = .int .i64 x3_1 ∧ v8 = .int .i64 x8_1 ∧ Aside0 (bits_Sum.l0 kq x3_1 l0 (l0.length : Int) x8_1 = some r) ∧ Aside0 (kq ≤ k) ∧ Drawn0 w w')
  case atStart => exact ⟨(0), (0), (by first | rfl | (simp; done) | (simp [*]; done)), (by first | rfl | (simp; done) | (simp [*]; done)), H', ⟨Nat.le_refl _⟩, by repeat (first | exact Drawn0.refl _ | apply Drawn0.step)⟩
  case round =>
    clear H'
    try clear c1
    obtain ⟨x3_1, x8_1, rfl, rfl, HA, HK1, ⟨m1, rfl⟩⟩ := hrel
    cases gk with
    | zero => exact absurd HA.out (by simp [bits_Sum.l0])
    | succ k1 =>
      have H := HA.out
      clear HA
      simp only [bits_Sum.l0] at H
      by_cases c2 : x8_1 < (l0.length : Int)
      · rw [if_pos c2] at H
        have c2b0 : decide (x8_1 < (l0.length : Int)) = true := decide_eq_true c2
        clear c2
        by_cases c3 : 0 ≤ x8_1
        · rw [if_pos c3] at H
          have c3b0 : decide (0 ≤ x8_1) = true := decide_eq_true c3
          clear c3
          by_cases c4 : x8_1 < (l0.length : Int)
          · rw [if_pos c4] at H
            have c4b0 : decide (x8_1 < (l0.length : Int)) = true := decide_eq_true c4
            clear c4
            by_cases c5 : (Int.tmod x8_1 2) = 0
            · rw [if_pos c5] at H
              have c5b0 : ((Int.tmod x8_1 2) == 0) = true := beq_iff_eq.mpr c5
              have c5b1 : ((Int.tmod x8_1 2) != 0) = false := bne_eq_false_iff_eq.mpr c5
              clear c5
              replace H := Option.bind_eq_some_iff.mp H
              obtain ⟨t105, A60, H⟩ := H
              replace H : (bits_Sum.l0 k1 t105 l0 (l0.length : Int) (wrap64 (x8_1 + 1))) = some r := H
              have A6 := Aside0.mk A60
              clear A60
              have H' := Aside0.mk H
              clear H
              have p104 : 0 ≤ (x8_1 : Int) := of_decide_eq_true (by first | (with_reducible assumption) | assumption)
              have q104 : x8_1 < (l0.length : Int) := of_decide_eq_true (by first | (with_reducible assumption) | assumption)
              obtain ⟨ad104, e104, hx104_0⟩ := Kd.at_int HR0.out x8_1 p104 q104
              cases e104
              replace p104 := eq_true p104
              replace q104 := eq_true q104
              go_wp2_with (first | ((with_reducible refine gate_callee (f := 31) rfl ?_); refine goesL_ (some 26) rfl rfl Tryd.func31 (by kernel_rfl) rfl #[.int .i64 (wrap64 (x3_1 + (wrap64 ((wrap64 (rd l0 x8_1)) * 256))))] rfl (by (try simp only [List.map_toArray, List.map_cons, List.map_nil]); first | done | rfl | (simp only [List.length_drop, List.length_take]; rfl)) ?_; (with_reducible refine (bits_folded.calls k1 (wrap64 (x3_1 + (wrap64 ((wrap64 (rd l0 x8_1)) * 256)))) t105 _ A6.out).mono ?_); rintro e w' ⟨rfl, ⟨nd, rfl⟩⟩; refine ⟨_, rfl, ?_⟩))
              go_roundg k1
              case measure => have := HK1.out; omega
              case rel => exact ⟨(t105), (wrap64 (x8_1 + 1)), (by first | rfl | (simp; done) | (simp [*]; done)), (by first | rfl | (simp; done) | (simp [*]; done)), H', ⟨by have := HK1.out; omega⟩, by repeat (first | exact Drawn0.refl _ | apply Drawn0.step)⟩
            · rw [if_neg c5] at H
              have c5b0 : ((Int.tmod x8_1 2) == 0) = false := beq_eq_false_iff_ne.mpr c5
              have c5b1 : ((Int.tmod x8_1 2) != 0) = true := bne_iff_ne.mpr c5
              replace H := Option.bind_eq_some_iff.mp H
              obtain ⟨t106, A70, H⟩ := H
              replace H : (bits_Sum.l0 k1 t106 l0 (l0.length : Int) (wrap64 (x8_1 + 1))) = some r := H
              have A7 := Aside0.mk A70
              clear A70
              have H' := Aside0.mk H
              clear H
              have p104 : 0 ≤ (x8_1 : Int) := of_decide_eq_true (by first | (with_reducible assumption) | assumption)
              have q104 : x8_1 < (l0.length : Int) := of_decide_eq_true (by first | (with_reducible assumption) | assumption)
              obtain ⟨ad104, e104, hx104_0⟩ := Kd.at_int HR0.out x8_1 p104 q104
              cases e104
              replace p104 := eq_true p104
              replace q104 := eq_true q104
              go_wp2_with (first | ((with_reducible refine gate_callee (f := 31) rfl ?_); refine goesL_ (some 26) rfl rfl Tryd.func31 (by kernel_rfl) rfl #[.int .i64 (wrap64 (x3_1 + (wrap64 (rd l0 x8_1))))] rfl (by (try simp only [List.map_toArray, List.map_cons, List.map_nil]); first | done | rfl | (simp only [List.length_drop, List.length_take]; rfl)) ?_; (with_reducible refine (bits_folded.calls k1 (wrap64 (x3_1 + (wrap64 (rd l0 x8_1)))) t106 _ A7.out).mono ?_); rintro e w' ⟨rfl, ⟨nd, rfl⟩⟩; refine ⟨_, rfl, ?_⟩))
              go_roundg k1
              case measure => have := HK1.out; omega
              case rel => exact ⟨(t106), (wrap64 (x8_1 + 1)), (by first | rfl | (simp; done) | (simp [*]; done)), (by first | rfl | (simp; done) | (simp [*]; done)), H', ⟨by have := HK1.out; omega⟩, by repeat (first | exact Drawn0.refl _ | apply Drawn0.step)⟩
          · rw [if_neg c4] at H
            exact absurd H (by simp)
        · rw [if_neg c3] at H
          exact absurd H (by simp)
      · rw [if_neg c2] at H
        have c2b0 : decide (x8_1 < (l0.length : Int)) = false := decide_eq_false c2
        clear c2
        obtain rfl := Option.some.inj H
        go_wp2
        go_ret
        exact ⟨by first | rfl | (simp; done) | (simp [*]; done), by repeat (first | exact Drawn0.refl _ | apply Drawn0.step)⟩

end Go.Proofs.YtlilcbpcjmcfbaaDoor.D
