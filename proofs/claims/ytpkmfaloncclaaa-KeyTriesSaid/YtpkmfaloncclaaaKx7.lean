/- Laid by a program of this repo over the translation: each Go function as a plain Lean function with the proof that the call comes to its answers, or a statement's row out of these; conditions: the hypotheses of each theorem. -/
import Derived.Test.YtpkmfaloncclaaaKx0
import Derived.Test.YtpkmfaloncclaaaKx1
import Derived.Test.YtpkmfaloncclaaaKx2
import Derived.Test.YtpkmfaloncclaaaKx3
namespace Go.Proofs.Ytpkmfaloncclaaa.K
open Go.RowKit Go.Proofs.YtpkmfaloncclaaaW.PrintWords Go.Proofs.YtpkmfaloncclaaaW.PrintLast Go.Proofs.YtpkmfaloncclaaaW.PrintMore
attribute [local go_sem] max2_int min2_int max_two min_two max_three min_three max_four min_four   -- for this text's walks alone
set_option linter.unusedVariables false
set_option linter.unusedSimpArgs false

/-! ### wireglassref21_long: function 58 -/
def wireglassref21_long.l0 : Nat → List Int → Int → Int → Option (Int)
  | 0, _, _, _ => none
  | k + 1, x0, x3, x4 => if x4 ≥ 0 then (if 0 ≤ x4 then (if x4 < (x0.length : Int) then (wireglassref21_long.l0 k x0 (Go.bits .or .u64 (IntKind.u64.wrap (x3 * 256)) (IntKind.u64.wrap (rd x0 x4))) (wrap64 (x4 - 1))) else (none)) else (none)) else (some x3)
def wireglassref21_long.f (k : Nat) (l0 : List Int) : Option (Int) := wireglassref21_long.l0 k l0 0 7
theorem wireglassref21_long.mono_l : ∀ k, (∀ y0 y1 y2, LeO (wireglassref21_long.l0 k y0 y1 y2) (wireglassref21_long.l0 (k + 1) y0 y1 y2))
  | 0 => fun _ _ _ r h => by simp [wireglassref21_long.l0] at h
  | k + 1 => by
    have ih0 := wireglassref21_long.mono_l k
    · intro y0 y1 y2
      unfold wireglassref21_long.l0
      repeat' first
      | (with_reducible exact ih0 _ _ _)
      | (with_reducible exact LeO.refl _)
      | (with_reducible exact LeO.none _)
      | (with_reducible refine LeO.ite ?_ ?_)
      | (with_reducible refine LeO.bind ?_ (fun _ => ?_))
      | exact ih0 _ _ _
      | exact LeO.none _
      | refine LeO.ite ?_ ?_
      | refine LeO.bind ?_ (fun _ => ?_)
theorem wireglassref21_long.mono : ∀ a0 k, LeO (wireglassref21_long.f k a0) (wireglassref21_long.f (k + 1) a0) := by
  intro a0 k
  have ih0 := wireglassref21_long.mono_l k
  unfold wireglassref21_long.f
  repeat' first
      | (with_reducible exact ih0 _ _ _)
      | (with_reducible exact LeO.refl _)
      | (with_reducible exact LeO.none _)
      | (with_reducible refine LeO.ite ?_ ?_)
      | (with_reducible refine LeO.bind ?_ (fun _ => ?_))
      | exact ih0 _ _ _
      | exact LeO.none _
      | refine LeO.ite ?_ ?_
      | refine LeO.bind ?_ (fun _ => ?_)
set_option maxHeartbeats 8000000 in
set_option maxRecDepth 100000 in
theorem wireglassref21_long.calls (k : Nat) (A0 : Option Addr) (c0 : Nat) (l0 : List Int) (r : Int) (w : World) (hr0 : Kd.C (Kd.int .u8) w A0 l0.length l0) (hc0 : l0.length ≤ c0) (h : wireglassref21_long.f k l0 = some r) :
    Calls Try.prog 58 #[.slice A0 l0.length c0] w fun e w' => e = .returned (.int .u64 r) ∧ Drawn0 w w' := by
  have HR0 := Aside0.mk hr0
  have HC0 := Aside0.mk hc0
  clear hr0 hc0
  have H : (wireglassref21_long.l0 k l0 0 7) = some r := h
  clear h
  have H' := Aside0.mk H
  clear H
  go_enter Try.func58, Try.ntmps58
  go_wp2
  go_loopg [3, 4] k (fun kq v3 v4 w' => ∃ (x3_1 : Int) (x4_1 : Int), v3 = .int .u64 x3_1 ∧ v4 = .int .i64 x4_1 ∧ Aside0 (wireglassref21_long.l0 kq l0 x3_1 x4_1 = some r) ∧ Aside0 (kq ≤ k) ∧ Drawn0 w w')
  case atStart => exact ⟨(0), (7), (by first | rfl | (simp; done) | (simp [*]; done)), (by first | rfl | (simp; done) | (simp [*]; done)), H', ⟨Nat.le_refl _⟩, by repeat (first | exact Drawn0.refl _ | apply Drawn0.step)⟩
  case round =>
    clear H'
    obtain ⟨x3_1, x4_1, rfl, rfl, HA, HK1, ⟨m1, rfl⟩⟩ := hrel
    cases gk with
    | zero => exact absurd HA.out (by simp [wireglassref21_long.l0])
    | succ k1 =>
      have H := HA.out
      clear HA
      simp only [wireglassref21_long.l0] at H
      by_cases c2 : x4_1 ≥ 0
      · rw [if_pos c2] at H
        have c2b0 : decide (0 ≤ x4_1) = true := decide_eq_true c2
        clear c2
        by_cases c3 : 0 ≤ x4_1
        · rw [if_pos c3] at H
          have c3b0 : decide (0 ≤ x4_1) = true := decide_eq_true c3
          clear c3
          by_cases c4 : x4_1 < (l0.length : Int)
          · rw [if_pos c4] at H
            have c4b0 : decide (x4_1 < (l0.length : Int)) = true := decide_eq_true c4
            clear c4
            have H' := Aside0.mk H
            clear H
            have p194 : 0 ≤ (x4_1 : Int) := of_decide_eq_true (by first | (with_reducible assumption) | assumption)
            have q194 : x4_1 < (l0.length : Int) := of_decide_eq_true (by first | (with_reducible assumption) | assumption)
            obtain ⟨ad194, e194, hx194_0⟩ := Kd.at_int HR0.out x4_1 p194 q194
            cases e194
            replace p194 := eq_true p194
            replace q194 := eq_true q194
            go_wp2
            go_roundg k1
            case measure => have := HK1.out; omega
            case rel => exact ⟨(Go.bits .or .u64 (IntKind.u64.wrap (x3_1 * 256)) (IntKind.u64.wrap (rd l0 x4_1))), (wrap64 (x4_1 - 1)), (by first | rfl | (simp; done) | (simp [*]; done)), (by first | rfl | (simp; done) | (simp [*]; done)), H', ⟨by have := HK1.out; omega⟩, by repeat (first | exact Drawn0.refl _ | apply Drawn0.step)⟩
          · rw [if_neg c4] at H
            exact absurd H (by simp)
        · rw [if_neg c3] at H
          exact absurd H (by simp)
      · rw [if_neg c2] at H
        have c2b0 : decide (0 ≤ x4_1) = false := decide_eq_false c2
        clear c2
        obtain rfl := Option.some.inj H
        go_wp2
        go_ret
        exact ⟨by first | rfl | (simp; done) | (simp [*]; done), by repeat (first | exact Drawn0.refl _ | apply Drawn0.step)⟩

theorem wireglassref21_long.callsm (k : Nat) (A0 : Option Addr) (c0 m0 : Nat) (l0 : List Int) (r : Int) (w : World) (hm : l0.length = m0) (hr0 : Kd.C (Kd.int .u8) w A0 l0.length l0) (hc0 : l0.length ≤ c0) (h : wireglassref21_long.f k l0 = some r) :
    Calls Try.prog 58 #[.slice A0 m0 c0] w fun e w' => e = .returned (.int .u64 r) ∧ Drawn0 w w' := by
  subst hm
  exact (wireglassref21_long.calls k A0 c0 l0 r w hr0 hc0 h).mono fun _ _ h => h

/-! ### wireglassref21_left: function 68 -/
def wireglassref21_left.f (a0 : Int) (a1 : Int) : Option (Int) := if 0 ≤ a1 then (if 0 ≤ (wrap64 (64 - a1)) then (some (Go.bits .or .u64 (shl .u64 a0 a1) (shr .u64 a0 (wrap64 (64 - a1))))) else (none)) else (none)
set_option maxHeartbeats 8000000 in
set_option maxRecDepth 100000 in
theorem wireglassref21_left.calls (a0 : Int) (a1 : Int) (r : Int) (w : World) (h : wireglassref21_left.f a0 a1 = some r) :
    Calls Try.prog 68 #[.int .u64 a0, .int .i64 a1] w fun e w' => e = .returned (.int .u64 r) ∧ Drawn0 w w' := by
  have H : (if 0 ≤ a1 then (if 0 ≤ (wrap64 (64 - a1)) then (some (Go.bits .or .u64 (shl .u64 a0 a1) (shr .u64 a0 (wrap64 (64 - a1))))) else (none)) else (none)) = some r := h
  clear h
  by_cases c3 : 0 ≤ a1
  · rw [if_pos c3] at H
    have c3b0 := eq_true c3
    have c3b1 : decide (0 ≤ a1) = true := decide_eq_true c3
    clear c3
    obtain ⟨ji4, hji4⟩ : ∃ j_ : Int, (shl .u64 a0 a1) = j_ := ⟨_, rfl⟩
    replace H : (if 0 ≤ (wrap64 (64 - a1)) then (some (Go.bits .or .u64 (ji4) (shr .u64 a0 (wrap64 (64 - a1))))) else (none)) = some r := by first | (rw [hji4] at H; exact H) | (simp only [hji4] at H ⊢; exact H)
    have hji4_ : (IntKind.u64.wrap (a0 * 2 ^ min a1.toNat 64)) = ji4 := hji4
    have hji4z : a1 ≤ 64 → (IntKind.u64.wrap (a0 * 2 ^ a1.toNat)) = ji4 := shl_small hji4
    obtain ⟨ji5, hji5⟩ : ∃ j_ : Int, (wrap64 (64 - a1)) = j_ := ⟨_, rfl⟩
    replace H : (if 0 ≤ (ji5) then (some (Go.bits .or .u64 (ji4) (shr .u64 a0 (ji5)))) else (none)) = some r := by first | (rw [hji5] at H; exact H) | (simp only [hji5] at H ⊢; exact H)
    have hji5w : (IntKind.i64.wrap (64 - a1)) = ji5 := (i64_w _).trans hji5
    by_cases c6 : 0 ≤ (ji5)
    · rw [if_pos c6] at H
      have c6b0 := eq_true c6
      have c6b1 : decide (0 ≤ (ji5)) = true := decide_eq_true c6
      clear c6
      obtain ⟨ji7, hji7⟩ : ∃ j_ : Int, (shr .u64 a0 (ji5)) = j_ := ⟨_, rfl⟩
      replace H : (some (Go.bits .or .u64 (ji4) (ji7))) = some r := by first | (rw [hji7] at H; exact H) | (simp only [hji7] at H ⊢; exact H)
      have hji7_ : (a0 / 2 ^ min (ji5).toNat 64) = ji7 := hji7
      have hji7z : (ji5) ≤ 64 → (a0 / 2 ^ (ji5).toNat) = ji7 := shr_small hji7
      obtain rfl := Option.some.inj H
      go_enter Try.func68, Try.ntmps68
      go_wp2
      repeat (go_quiet (fail); try go_wp2)
      go_ret
      exact ⟨by first | rfl | (simp; done) | (simp only [← hji4, ← hji5, ← hji7] <;> (first | rfl | simp)) | (simp [*]; done), by repeat (first | exact Drawn0.refl _ | apply Drawn0.step)⟩
    · rw [if_neg c6] at H
      exact absurd H (by simp)
  · rw [if_neg c3] at H
    exact absurd H (by simp)

/-! ### wireglassref21_round: function 59 -/
-- EXT HIDDEN
theorem wireglassref21_left.is (n : Int) {x : Int} (h : W64 x) (hn : n = 13 ∨ n = 32 ∨ n = 16 ∨ n = 21 ∨ n = 17) : wireglassref21_left.f x n = some (Hand.rot64 n.toNat x) := by
  unfold wireglassref21_left.f
  obtain ⟨h0, h1⟩ := h
  have key : ∀ k : Nat, k ≤ 63 → 1 ≤ k → n = (k : Int) → (if 0 ≤ n then (if 0 ≤ (wrap64 (64 - n)) then (some (Go.bits .or .u64 (shl .u64 x n) (shr .u64 x (wrap64 (64 - n))))) else (none)) else (none)) = some (Hand.rot64 n.toNat x) := by
    rintro k hk hk0 rfl
    have e : wrap64 (64 - (k : Int)) = ((64 - k : Nat) : Int) := by rw [Hand.w64 (by omega) (by omega)]; omega
    have s1 : shl .u64 x (k : Int) = x * 2 ^ k % 18446744073709551616 := by
      unfold shl
      rw [show min (k : Int).toNat IntKind.u64.bits = k by rw [show IntKind.u64.bits = 64 from rfl]; omega, IntKind.wrap_u64]
    have s2 : shr .u64 x ((64 - k : Nat) : Int) = x / 2 ^ (64 - k) := Hand.shr_eq (by rw [show IntKind.u64.bits = 64 from rfl]; omega)
    rw [if_pos (by omega), e, if_pos (by omega), s1, s2, Int.toNat_natCast]
    have hp := Hand.p2_pos (64 - k)
    have a := Int.ediv_nonneg h0 (Int.le_of_lt hp)
    have b := Int.ediv_le_self (2 ^ (64 - k)) h0
    unfold Hand.rot64
    rw [Hand.or_u64' (Int.emod_nonneg _ (by decide)) (Int.emod_lt_of_pos _ (by decide)) a (by omega)]
  rcases hn with rfl | rfl | rfl | rfl | rfl
  · exact key 13 (by decide) (by decide) rfl
  · exact key 32 (by decide) (by decide) rfl
  · exact key 16 (by decide) (by decide) rfl
  · exact key 21 (by decide) (by decide) rfl
  · exact key 17 (by decide) (by decide) rfl
set_option maxHeartbeats 8000000 in
set_option maxRecDepth 100000 in
theorem ref_round.calls' (g : Nat) (a b c d : Int) (w : World) (hg : Four 90 w g a b c d) (hs : Sip (a, b, c, d)) :
    Calls Try.prog 59 #[.pointer (some ⟨g, 0, none⟩)] w fun e w' => e = .returned (.tuple #[]) ∧ FourAt 90 w w' g (sipR (a, b, c, d)).1 (sipR (a, b, c, d)).2.1 (sipR (a, b, c, d)).2.2.1 (sipR (a, b, c, d)).2.2.2 := by
  obtain ⟨⟨a', b', c', d'⟩, hz⟩ : ∃ z, sipR (a, b, c, d) = z := ⟨_, rfl⟩
  rw [hz]
  simp only [sipR, Prod.mk.injEq] at hz
  obtain ⟨hza, hzb, hzc, hzd⟩ := hz
  obtain ⟨ha, hb, hc, hd⟩ := hs
  have HG := Aside0.mk (show FourAt 90 w w g a b c d from ⟨hg, Below.refl _ _, KeepBut.refl _ _ _⟩)
  clear hg
  have hw0 := add64_bd a b
  obtain ⟨x0, he0⟩ : ∃ z, (a + b) % 18446744073709551616 = z := ⟨_, rfl⟩
  rw [he0] at hw0
  simp only [he0] at hza hzb hzc hzd
  have E0 : Aside0 (IntKind.u64.wrap (a + b) = x0) := ⟨by rw [IntKind.wrap_u64]; exact he0⟩
  clear he0
  have hr1 := rot64_w (n := 13) hb
  obtain ⟨r1, he1⟩ : ∃ z, Hand.rot64 13 b = z := ⟨_, rfl⟩
  rw [he1] at hr1
  simp only [he1] at hza hzb hzc hzd
  have T1 : Aside0 (wireglassref21_left.f b 13 = some r1) := ⟨by rw [← he1]; exact (fun h => wireglassref21_left.is 13 h (by decide)) hb⟩
  clear he1
  have hw1 := xr64_w hr1 hw0
  obtain ⟨x1, he1⟩ : ∃ z, Hand.xr r1 x0 = z := ⟨_, rfl⟩
  rw [he1] at hw1
  simp only [he1] at hza hzb hzc hzd
  have E1 : Aside0 (Go.bits .xor .u64 r1 x0 = x1) := ⟨by rw [← he1]; exact Hand.xor_u64 hr1.1 hr1.2 hw0.1 hw0.2⟩
  clear he1
  have hr2 := rot64_w (n := 32) hw0
  obtain ⟨r2, he2⟩ : ∃ z, Hand.rot64 32 x0 = z := ⟨_, rfl⟩
  rw [he2] at hr2
  simp only [he2] at hza hzb hzc hzd
  have T2 : Aside0 (wireglassref21_left.f x0 32 = some r2) := ⟨by rw [← he2]; exact (fun h => wireglassref21_left.is 32 h (by decide)) hw0⟩
  clear he2
  have hw3 := add64_bd c d
  obtain ⟨x3, he3⟩ : ∃ z, (c + d) % 18446744073709551616 = z := ⟨_, rfl⟩
  rw [he3] at hw3
  simp only [he3] at hza hzb hzc hzd
  have E3 : Aside0 (IntKind.u64.wrap (c + d) = x3) := ⟨by rw [IntKind.wrap_u64]; exact he3⟩
  clear he3
  have hr4 := rot64_w (n := 16) hd
  obtain ⟨r4, he4⟩ : ∃ z, Hand.rot64 16 d = z := ⟨_, rfl⟩
  rw [he4] at hr4
  simp only [he4] at hza hzb hzc hzd
  have T4 : Aside0 (wireglassref21_left.f d 16 = some r4) := ⟨by rw [← he4]; exact (fun h => wireglassref21_left.is 16 h (by decide)) hd⟩
  clear he4
  have hw4 := xr64_w hr4 hw3
  obtain ⟨x4, he4⟩ : ∃ z, Hand.xr r4 x3 = z := ⟨_, rfl⟩
  rw [he4] at hw4
  simp only [he4] at hza hzb hzc hzd
  have E4 : Aside0 (Go.bits .xor .u64 r4 x3 = x4) := ⟨by rw [← he4]; exact Hand.xor_u64 hr4.1 hr4.2 hw3.1 hw3.2⟩
  clear he4
  have hw5 := add64_bd r2 x4
  obtain ⟨x5, he5⟩ : ∃ z, (r2 + x4) % 18446744073709551616 = z := ⟨_, rfl⟩
  rw [he5] at hw5
  simp only [he5] at hza hzb hzc hzd
  have E5 : Aside0 (IntKind.u64.wrap (r2 + x4) = x5) := ⟨by rw [IntKind.wrap_u64]; exact he5⟩
  clear he5
  have hr6 := rot64_w (n := 21) hw4
  obtain ⟨r6, he6⟩ : ∃ z, Hand.rot64 21 x4 = z := ⟨_, rfl⟩
  rw [he6] at hr6
  simp only [he6] at hza hzb hzc hzd
  have T6 : Aside0 (wireglassref21_left.f x4 21 = some r6) := ⟨by rw [← he6]; exact (fun h => wireglassref21_left.is 21 h (by decide)) hw4⟩
  clear he6
  have hw6 := xr64_w hr6 hw5
  obtain ⟨x6, he6⟩ : ∃ z, Hand.xr r6 x5 = z := ⟨_, rfl⟩
  rw [he6] at hw6
  simp only [he6] at hza hzb hzc hzd
  have E6 : Aside0 (Go.bits .xor .u64 r6 x5 = x6) := ⟨by rw [← he6]; exact Hand.xor_u64 hr6.1 hr6.2 hw5.1 hw5.2⟩
  clear he6
  have hw7 := add64_bd x3 x1
  obtain ⟨x7, he7⟩ : ∃ z, (x3 + x1) % 18446744073709551616 = z := ⟨_, rfl⟩
  rw [he7] at hw7
  simp only [he7] at hza hzb hzc hzd
  have E7 : Aside0 (IntKind.u64.wrap (x3 + x1) = x7) := ⟨by rw [IntKind.wrap_u64]; exact he7⟩
  clear he7
  have hr8 := rot64_w (n := 17) hw1
  obtain ⟨r8, he8⟩ : ∃ z, Hand.rot64 17 x1 = z := ⟨_, rfl⟩
  rw [he8] at hr8
  simp only [he8] at hza hzb hzc hzd
  have T8 : Aside0 (wireglassref21_left.f x1 17 = some r8) := ⟨by rw [← he8]; exact (fun h => wireglassref21_left.is 17 h (by decide)) hw1⟩
  clear he8
  have hw8 := xr64_w hr8 hw7
  obtain ⟨x8, he8⟩ : ∃ z, Hand.xr r8 x7 = z := ⟨_, rfl⟩
  rw [he8] at hw8
  simp only [he8] at hza hzb hzc hzd
  have E8 : Aside0 (Go.bits .xor .u64 r8 x7 = x8) := ⟨by rw [← he8]; exact Hand.xor_u64 hr8.1 hr8.2 hw7.1 hw7.2⟩
  clear he8
  have hr9 := rot64_w (n := 32) hw7
  obtain ⟨r9, he9⟩ : ∃ z, Hand.rot64 32 x7 = z := ⟨_, rfl⟩
  rw [he9] at hr9
  simp only [he9] at hza hzb hzc hzd
  have T9 : Aside0 (wireglassref21_left.f x7 32 = some r9) := ⟨by rw [← he9]; exact (fun h => wireglassref21_left.is 32 h (by decide)) hw7⟩
  clear he9
  obtain ⟨rfl, rfl, rfl, rfl⟩ : x5 = a' ∧ x8 = b' ∧ r9 = c' ∧ x6 = d' := ⟨hza, hzb, hzc, hzd⟩
  clear hza hzb hzc hzd ha hb hc hd hw0 hw1 hw3 hw4 hw5 hw6 hw7 hw8 hr1 hr2 hr4 hr6 hr8 hr9
  go_enter Try.func59, Try.ntmps59
  go_upto_region 0 with (fail)
  go_cut [0] from 2 (fun s0 wx => s0 = .pointer (some ⟨g, 0, none⟩) ∧ FourAt 90 w wx g x0 b c d)
  case first =>
    have k0 := HG.out.1.c0
    have k1 := HG.out.1.c1
    have f0 := HG.out.1.fz 0
    have he := E0.out
    go_still_tail 11, (by kernel_rfl)
    change wpList _ _ _ _ _ (World.drew _)
    go_wp2
    go_meet
    case rel => exact ⟨rfl, (HG.out.set0 _).drew⟩
  obtain ⟨rfl, hg⟩ := hcut
  clear HG
  have HG := Aside0.mk hg
  clear hg
  go_upto_region 1 with (fail)
  go_cut [0] from 2 (fun s0 wx => s0 = .pointer (some ⟨g, 0, none⟩) ∧ FourAt 90 w wx g x0 x1 c d)
  case first =>
    have k0 := HG.out.1.c1
    have k1 := HG.out.1.c0
    have f0 := HG.out.1.fz 1
    have he := E1.out
    go_region_law (go_simp; (go_at_call 68; (with_reducible refine (wireglassref21_left.calls b 13 r1 _ T1.out).mono ?_); rintro e w' ⟨rfl, ⟨nd, rfl⟩⟩))
    all_goals go_wp2
    all_goals go_meet
    all_goals (first
      | exact ⟨rfl, (HG.out.drewN _).set1 _⟩
      | exact ⟨rfl, (HG.out.set1 _).drewN _⟩
      | exact ⟨rfl, ((HG.out.drewN _).set1 _).drew⟩
      | exact ⟨rfl, ((HG.out.drewN _).set1 _).drewN _⟩)
  obtain ⟨rfl, hg⟩ := hcut
  clear HG
  have HG := Aside0.mk hg
  clear hg
  go_upto_region 2 with (fail)
  go_cut [0] from 2 (fun s0 wx => s0 = .pointer (some ⟨g, 0, none⟩) ∧ FourAt 90 w wx g r2 x1 c d)
  case first =>
    have k0 := HG.out.1.c0
    have k1 := HG.out.1.c1
    have f0 := HG.out.1.fz 0
    go_region_law (go_simp; (go_at_call 68; (with_reducible refine (wireglassref21_left.calls x0 32 r2 _ T2.out).mono ?_); rintro e w' ⟨rfl, ⟨nd, rfl⟩⟩))
    all_goals go_wp2
    all_goals go_meet
    all_goals (first
      | exact ⟨rfl, (HG.out.drewN _).set0 _⟩
      | exact ⟨rfl, (HG.out.set0 _).drewN _⟩
      | exact ⟨rfl, ((HG.out.drewN _).set0 _).drew⟩
      | exact ⟨rfl, ((HG.out.drewN _).set0 _).drewN _⟩)
  obtain ⟨rfl, hg⟩ := hcut
  clear HG
  have HG := Aside0.mk hg
  clear hg
  go_upto_region 3 with (fail)
  go_cut [0] from 2 (fun s0 wx => s0 = .pointer (some ⟨g, 0, none⟩) ∧ FourAt 90 w wx g r2 x1 x3 d)
  case first =>
    have k0 := HG.out.1.c2
    have k1 := HG.out.1.c3
    have f0 := HG.out.1.fz 2
    have he := E3.out
    go_still_tail 11, (by kernel_rfl)
    change wpList _ _ _ _ _ (World.drew _)
    go_wp2
    go_meet
    case rel => exact ⟨rfl, (HG.out.set2 _).drew⟩
  obtain ⟨rfl, hg⟩ := hcut
  clear HG
  have HG := Aside0.mk hg
  clear hg
  go_upto_region 4 with (fail)
  go_cut [0] from 2 (fun s0 wx => s0 = .pointer (some ⟨g, 0, none⟩) ∧ FourAt 90 w wx g r2 x1 x3 x4)
  case first =>
    have k0 := HG.out.1.c3
    have k1 := HG.out.1.c2
    have f0 := HG.out.1.fz 3
    have he := E4.out
    go_region_law (go_simp; (go_at_call 68; (with_reducible refine (wireglassref21_left.calls d 16 r4 _ T4.out).mono ?_); rintro e w' ⟨rfl, ⟨nd, rfl⟩⟩))
    all_goals go_wp2
    all_goals go_meet
    all_goals (first
      | exact ⟨rfl, (HG.out.drewN _).set3 _⟩
      | exact ⟨rfl, (HG.out.set3 _).drewN _⟩
      | exact ⟨rfl, ((HG.out.drewN _).set3 _).drew⟩
      | exact ⟨rfl, ((HG.out.drewN _).set3 _).drewN _⟩)
  obtain ⟨rfl, hg⟩ := hcut
  clear HG
  have HG := Aside0.mk hg
  clear hg
  go_upto_region 5 with (fail)
  go_cut [0] from 2 (fun s0 wx => s0 = .pointer (some ⟨g, 0, none⟩) ∧ FourAt 90 w wx g x5 x1 x3 x4)
  case first =>
    have k0 := HG.out.1.c0
    have k1 := HG.out.1.c3
    have f0 := HG.out.1.fz 0
    have he := E5.out
    go_still_tail 11, (by kernel_rfl)
    change wpList _ _ _ _ _ (World.drew _)
    go_wp2
    go_meet
    case rel => exact ⟨rfl, (HG.out.set0 _).drew⟩
  obtain ⟨rfl, hg⟩ := hcut
  clear HG
  have HG := Aside0.mk hg
  clear hg
  go_upto_region 6 with (fail)
  go_cut [0] from 2 (fun s0 wx => s0 = .pointer (some ⟨g, 0, none⟩) ∧ FourAt 90 w wx g x5 x1 x3 x6)
  case first =>
    have k0 := HG.out.1.c3
    have k1 := HG.out.1.c0
    have f0 := HG.out.1.fz 3
    have he := E6.out
    go_region_law (go_simp; (go_at_call 68; (with_reducible refine (wireglassref21_left.calls x4 21 r6 _ T6.out).mono ?_); rintro e w' ⟨rfl, ⟨nd, rfl⟩⟩))
    all_goals go_wp2
    all_goals go_meet
    all_goals (first
      | exact ⟨rfl, (HG.out.drewN _).set3 _⟩
      | exact ⟨rfl, (HG.out.set3 _).drewN _⟩
      | exact ⟨rfl, ((HG.out.drewN _).set3 _).drew⟩
      | exact ⟨rfl, ((HG.out.drewN _).set3 _).drewN _⟩)
  obtain ⟨rfl, hg⟩ := hcut
  clear HG
  have HG := Aside0.mk hg
  clear hg
  go_upto_region 7 with (fail)
  go_cut [0] from 2 (fun s0 wx => s0 = .pointer (some ⟨g, 0, none⟩) ∧ FourAt 90 w wx g x5 x1 x7 x6)
  case first =>
    have k0 := HG.out.1.c2
    have k1 := HG.out.1.c1
    have f0 := HG.out.1.fz 2
    have he := E7.out
    go_still_tail 11, (by kernel_rfl)
    change wpList _ _ _ _ _ (World.drew _)
    go_wp2
    go_meet
    case rel => exact ⟨rfl, (HG.out.set2 _).drew⟩
  obtain ⟨rfl, hg⟩ := hcut
  clear HG
  have HG := Aside0.mk hg
  clear hg
  go_upto_region 8 with (fail)
  go_cut [0] from 2 (fun s0 wx => s0 = .pointer (some ⟨g, 0, none⟩) ∧ FourAt 90 w wx g x5 x8 x7 x6)
  case first =>
    have k0 := HG.out.1.c1
    have k1 := HG.out.1.c2
    have f0 := HG.out.1.fz 1
    have he := E8.out
    go_region_law (go_simp; (go_at_call 68; (with_reducible refine (wireglassref21_left.calls x1 17 r8 _ T8.out).mono ?_); rintro e w' ⟨rfl, ⟨nd, rfl⟩⟩))
    all_goals go_wp2
    all_goals go_meet
    all_goals (first
      | exact ⟨rfl, (HG.out.drewN _).set1 _⟩
      | exact ⟨rfl, (HG.out.set1 _).drewN _⟩
      | exact ⟨rfl, ((HG.out.drewN _).set1 _).drew⟩
      | exact ⟨rfl, ((HG.out.drewN _).set1 _).drewN _⟩)
  obtain ⟨rfl, hg⟩ := hcut
  clear HG
  have HG := Aside0.mk hg
  clear hg
  go_upto_region 9 with (fail)
  have k0 := HG.out.1.c2
  have k1 := HG.out.1.c3
  have f0 := HG.out.1.fz 2
  go_region_law (go_simp; (go_at_call 68; (with_reducible refine (wireglassref21_left.calls x7 32 r9 _ T9.out).mono ?_); rintro e w' ⟨rfl, ⟨nd, rfl⟩⟩))
  all_goals go_wp2
  all_goals go_end0
  all_goals (first
    | exact ⟨rfl, (HG.out.drewN _).set2 _⟩
    | exact ⟨rfl, (HG.out.set2 _).drewN _⟩
    | exact ⟨rfl, ((HG.out.drewN _).set2 _).drew⟩
    | exact ⟨rfl, ((HG.out.drewN _).set2 _).drewN _⟩)

/-! ### wireglassref21_tag: function 38 -/
-- EXT rounds=0 making=1
/-- The reference's tag: the same as the program's (tagOf). -/
def wireglassref21_tag.f (l0 l1 : List Int) : Option (List Int) := if l0.length = 16 ∧ (l0.all isByteK = true ∧ l1.all isByteK = true) then some (tagOf l0 l1) else none
theorem long_from (l : List Int) (hb : ByteL l) (hl : l.length = 8) : ∀ (i : Nat), i ≤ 8 → wireglassref21_long.l0 (i + 1) l (leN (l.drop i)) ((i : Int) - 1) = some (leN l)
  | 0, _ => by
    rw [wireglassref21_long.l0, if_neg (by omega), List.drop_zero]
  | i + 1, h => by
    have hlt : i < l.length := by omega
    have hd : l.drop i = l[i] :: l.drop (i + 1) := List.drop_eq_getElem_cons hlt
    have hx := hb _ (List.getElem_mem hlt)
    have hbd := leN_bd (l.drop (i + 1)) (fun y hy => hb y (List.mem_of_mem_drop hy))
    have hp := pow256_le (m := (l.drop (i + 1)).length) (by rw [List.length_drop]; omega)
    rw [wireglassref21_long.l0, if_pos (by omega), if_pos (by omega), if_pos (by omega), show ((i + 1 : Nat) : Int) - 1 = (i : Int) by omega, Hand.rd_at hlt, get_or hbd.1 (by omega) hx.1 hx.2, Hand.w64 (by omega) (by omega)]
    have ih := long_from l hb hl i (by omega)
    rw [hd, leN] at ih
    exact ih
theorem long_le (l : List Int) (hb : ByteL l) (hl : l.length = 8) : wireglassref21_long.f 9 l = some (leN l) := by
  have := long_from l hb hl 8 (by omega)
  rw [List.drop_of_length_le (by omega)] at this
  exact this
theorem long_le.calls (A : Option Addr) (c : Nat) (l : List Int) (w : World) (hr : Kd.C (Kd.int .u8) w A 8 l) (hc : 8 ≤ c) (hb : ByteL l) :
    Calls Try.prog 58 #[.slice A 8 c] w fun e w' => e = .returned (.int .u64 (leN l)) ∧ Drawn0 w w' := by
  have hlen : l.length = 8 := hr.1
  exact (wireglassref21_long.callsm 9 A c 8 l _ w hlen (by rw [hlen]; exact hr) (by rw [hlen]; exact hc) (long_le l hb hlen)).mono fun _ _ h => h
def lowF (x : Int) : Nat → List Int
  | 0 => []
  | i + 1 => lowF x i ++ [x / 256 ^ i % 256]
theorem lowF_length (x : Int) : ∀ i, (lowF x i).length = i
  | 0 => rfl
  | i + 1 => by rw [lowF, List.length_append, lowF_length x i]; rfl
theorem lowF_is (x : Int) : lowF x 8 = lowN 8 x := by
  simp only [lowF, lowN, List.nil_append, List.cons_append]
  refine List.cons_eq_cons.2 ⟨by omega, ?_⟩
  refine List.cons_eq_cons.2 ⟨by omega, ?_⟩
  refine List.cons_eq_cons.2 ⟨by omega, ?_⟩
  refine List.cons_eq_cons.2 ⟨by omega, ?_⟩
  refine List.cons_eq_cons.2 ⟨by omega, ?_⟩
  refine List.cons_eq_cons.2 ⟨by omega, ?_⟩
  refine List.cons_eq_cons.2 ⟨by omega, ?_⟩
  refine List.cons_eq_cons.2 ⟨by omega, rfl⟩
theorem ref_round.s (g : Nat) (s : Int × Int × Int × Int) (w W : World) (hg : FourS 90 w W g s) (hs : Sip s) :
    Calls Try.prog 59 #[.pointer (some ⟨g, 0, none⟩)] W fun e w' => e = .returned (.tuple #[]) ∧ FourS 90 w w' g (sipR s) :=
  (ref_round.calls' g s.1 s.2.1 s.2.2.1 s.2.2.2 W hg.1 hs).mono fun _ _ ⟨he, h⟩ => ⟨he, hg.trans h⟩
set_option maxHeartbeats 8000000 in
set_option maxRecDepth 100000 in
theorem wireglassref21_tag.calls (A0 : Option Addr) (c0 : Nat) (l0 : List Int) (A1 : Option Addr) (c1 : Nat) (l1 : List Int) (r : List Int) (w : World) (hr0 : Kd.C (Kd.int .u8) w A0 l0.length l0) (hc0 : l0.length ≤ c0) (hr1 : Kd.C (Kd.int .u8) w A1 l1.length l1) (hc1 : l1.length ≤ c1) (h : wireglassref21_tag.f l0 l1 = some r) :
    Calls Try.prog 38 #[.slice A0 l0.length c0, .slice A1 l1.length c1] w fun e w' => ∃ v0_ : Value, e = .returned v0_ ∧ Kd.R (Kd.int .u8) 5 w' w.heap.size (fun _ => True) v0_ r ∧ Below w.heap.size w w' := by
  have HR0 := Aside0.mk hr0
  have HC0 := Aside0.mk hc0
  have HR1 := Aside0.mk hr1
  have HC1 := Aside0.mk hc1
  clear hr0 hc0 hr1 hc1
  have hq : l0.length = 16 ∧ (ByteL l0 ∧ ByteL l1) ∧ tagOf l0 l1 = r := by
    unfold wireglassref21_tag.f at h
    split at h
    · rename_i hc
      cases h
      exact ⟨hc.1, ⟨byteL_all hc.2.1, byteL_all hc.2.2⟩, rfl⟩
    · cases h
  clear h
  obtain ⟨hl0, ⟨hb0, hb1⟩, he⟩ := hq
  obtain ⟨i0, hi0, _, hsz0, _⟩ := info_parts info5
  have hcA := print_take_of (P := Try.prog) (Value.int .u8) 0 22 5 .i64 Try.underlying22 hi0 hsz0 A0 c0 l0 8 (by decide) (by rw [hl0]; decide) HC0.out
  obtain ⟨hcutA, hA, hAc⟩ := hcA
  obtain ⟨AB, hcutB, hB, hBc⟩ := print_drop_of (P := Try.prog) (Value.int .u8) 0 22 5 .i64 Try.underlying22 hi0 hsz0 A0 c0 l0 8 (by decide) (by rw [hl0]; decide) HC0.out
  have HRA := Aside0.mk (Kd.C_of_reads (h1 := fun _ => rfl) (hA _ (Kd.reads_of_C HR0.out)))
  have HRB := Aside0.mk (Kd.C_of_reads (h1 := fun _ => rfl) (hB _ (Kd.reads_of_C HR0.out)))
  have HCA := Aside0.mk hAc
  have HCB := Aside0.mk hBc
  clear hA hB hAc hBc hi0 hsz0
  have eA : (l0.take (8 : Int).toNat).length = 8 := by rw [List.length_take, hl0]; rfl
  have eB : (l0.drop (8 : Int).toNat).length = 8 := by rw [List.length_drop, hl0]; rfl
  rw [eA] at hcutA
  rw [eB] at hcutB
  have EA := Aside0.mk eA
  have EB := Aside0.mk eB
  have HL0 := Aside0.mk hl0
  have HY0 := Aside0.mk hb0
  have HY1 := Aside0.mk hb1
  obtain ⟨k, hk⟩ : ∃ k, leN (l0.take 8) = k := ⟨_, rfl⟩
  obtain ⟨m, hm⟩ : ∃ m, leN (l0.drop 8) = m := ⟨_, rfl⟩
  have hkw : W64 k := by rw [← hk]; exact leN_w64 (byteL_take hb0 8) (by rw [List.length_take]; omega)
  have hmw : W64 m := by rw [← hm]; exact leN_w64 (byteL_drop hb0 8) (by rw [List.length_drop]; omega)
  have HE : Aside0 ((fun p : (Int × Int × Int × Int) × List Int => tagLast (sipTake p.1 (leN (tagEnd p.2 l1.length)))) (tagEat l1.length (tagStart k m) l1) = r) := ⟨by rw [← he, ← hk, ← hm]; rfl⟩
  have HK := Aside0.mk hk
  have HM := Aside0.mk hm
  have HKW := Aside0.mk hkw
  have HMW := Aside0.mk hmw
  clear hl0 eA eB hb0 hb1 hk hm he
  have x1 : Go.bits .xor .u64 8317987319222330741 k = Hand.xr 8317987319222330741 k := Hand.xor_u64 (by decide) (by decide) hkw.1 hkw.2
  have x2 : Go.bits .xor .u64 7237128888997146477 m = Hand.xr 7237128888997146477 m := Hand.xor_u64 (by decide) (by decide) hmw.1 hmw.2
  have x3 : Go.bits .xor .u64 7816392313619706465 k = Hand.xr 7816392313619706465 k := Hand.xor_u64 (by decide) (by decide) hkw.1 hkw.2
  have x4 : Go.bits .xor .u64 8387220255154660723 m = Hand.xr 8387220255154660723 m := Hand.xor_u64 (by decide) (by decide) hmw.1 hmw.2
  clear hkw hmw
  go_enter Try.func38, Try.ntmps38
  go_wp2
  go_quiet (first | (go_at_call 58; (with_reducible refine (long_le.calls A0 _ (l0.take (8 : Int).toNat) _ ?side1 ?side2 ?side3).mono ?_); (case side1 => have h := HRA.out; rw [EA.out] at h; repeat (first | exact h | (with_reducible refine Kd.C_drewN ?_ _) | (with_reducible refine Kd.C_drew ?_))); (case side2 => have h := HCA.out; rw [EA.out] at h; exact h); (case side3 => exact byteL_take HY0.out _); rw [show leN (l0.take (8 : Int).toNat) = k from HK.out]; rintro e w' ⟨rfl, ⟨nd, rfl⟩⟩; (try first | exact ⟨rfl, _, World.drewN_drewN _ _ _⟩ | exact ⟨rfl, _, Eq.trans (World.drewN_drewN _ _ _) (congrArg (World.drewN _) (Nat.add_assoc _ _ _))⟩)) | (go_at_call 58; (with_reducible refine (long_le.calls AB _ (l0.drop (8 : Int).toNat) _ ?side1 ?side2 ?side3).mono ?_); (case side1 => have h := HRB.out; rw [EB.out] at h; repeat (first | exact h | (with_reducible refine Kd.C_drewN ?_ _) | (with_reducible refine Kd.C_drew ?_))); (case side2 => have h := HCB.out; rw [EB.out] at h; exact h); (case side3 => exact byteL_drop HY0.out _); rw [show leN (l0.drop (8 : Int).toNat) = m from HM.out]; rintro e w' ⟨rfl, ⟨nd, rfl⟩⟩; (try first | exact ⟨rfl, _, World.drewN_drewN _ _ _⟩ | exact ⟨rfl, _, Eq.trans (World.drewN_drewN _ _ _) (congrArg (World.drewN _) (Nat.add_assoc _ _ _))⟩)))
  obtain ⟨W0, hW0⟩ : ∃ W0, w.drewN nq = W0 := ⟨_, rfl⟩
  rw [hW0]
  have HB0 : Aside0 (Below w.heap.size w W0) := ⟨by rw [← hW0]; exact pw_below_drewN (Below.refl _ _) _⟩
  clear hW0 hcutA hcutB
  go_wp2
  obtain ⟨W1, hW1⟩ : ∃ W1, W0.alloc (.cells #[.int .u64 (Hand.xr 8317987319222330741 k), .int .u64 (Hand.xr 7237128888997146477 m), .int .u64 (Hand.xr 7816392313619706465 k), .int .u64 (Hand.xr 8387220255154660723 m)] 90) = W1 := ⟨_, rfl⟩
  rw [hW1]
  obtain ⟨g, hg⟩ : ∃ g, W0.heap.size = g := ⟨_, rfl⟩
  have HG0 := Aside0.mk hg
  have HB1 : Aside0 (Below w.heap.size w W1) := ⟨by rw [← hW1]; exact below_alloc HB0.out _⟩
  have HGE : Aside0 (w.heap.size ≤ g) := ⟨by rw [← hg]; exact HB0.out.size⟩
  have HS : Aside0 (FourS 90 W1 W1 g (tagStart k m)) := ⟨⟨by rw [← hW1, ← hg]; exact heap_alloc_new _ _, Below.refl _ _, KeepBut.refl _ _ _⟩⟩
  have HSB : Aside0 (Sip (tagStart k m)) := ⟨tagStart_bd HKW.out HMW.out⟩
  rw [hg]
  clear hg hW1 x1 x2 x3 x4
  go_loopg [8] (l1.length + 1) (fun q s8 wx => ∃ (p : Nat) (s : Int × Int × Int × Int), s8 = .int .i64 (p : Int) ∧ Aside0 ((l1.drop p).length + 1 ≤ q) ∧ Aside0 (p ≤ l1.length) ∧ Aside0 (Sip s) ∧ Aside0 (tagEat (l1.drop p).length s (l1.drop p) = tagEat l1.length (tagStart k m) l1) ∧ Aside0 (FourS 90 W1 wx g s))
  case atStart => exact ⟨0, tagStart k m, rfl, ⟨by rw [List.drop_zero]; exact Nat.le_refl _⟩, ⟨Nat.zero_le _⟩, HSB, ⟨by rw [List.drop_zero]⟩, HS⟩
  case round =>
    obtain ⟨p, ⟨a0, b0, e0, d0⟩, rfl, HQ, HPL, HP, HT, HF⟩ := hrel
    have hpl := HPL.out
    have hm1 := Kd.C_max HR1.out
    obtain ⟨WZ, hWZ⟩ : ∃ WZ, WZ = wr := ⟨_, rfl⟩
    subst hWZ
    obtain ⟨i1, hi1, _, hsz1, _⟩ := info_parts info5
    obtain ⟨AD, hcutD, hD, hDc⟩ := print_drop_of (P := Try.prog) (Value.int .u8) 0 22 5 .i64 Try.underlying22 hi1 hsz1 A1 c1 l1 (p : Int) (by omega) (by omega) HC1.out
    have hC := Kd.C_below (Kd.C_of_reads (h1 := fun _ => rfl) (hD _ (Kd.reads_of_C HR1.out))) (HB1.out.trans (HF.out.2.1.mono HGE.out))
    rw [Int.toNat_natCast] at hC hDc hcutD
    obtain ⟨l, hl⟩ : ∃ l, l1.drop p = l := ⟨_, rfl⟩
    have HL := Aside0.mk hl
    have HY : Aside0 (ByteL l) := ⟨by rw [← hl]; exact byteL_drop HY1.out p⟩
    rw [hl] at hC hDc hcutD HQ HT
    have hz8 : (1 : Nat) * 8 = 8 := rfl
    have hmk : ∀ W : World, (Instr.makeSlice 22 (.int .i64 8) (.int .i64 8)).run Try.prog W = .ok (.slice (some ⟨W.heap.size, 0, none⟩) 8 8) (W.alloc (.cells (nums .u8 [0, 0, 0, 0, 0, 0, 0, 0]).toArray 5)) := fun W => print_make 22 5 .u8 1 Try.underlying22 info5 (by decide) 8 (by decide) W |>.trans (by rw [show madeCells #[Value.int .u8 0] 8 = (nums .u8 [0, 0, 0, 0, 0, 0, 0, 0]).toArray from by kernel_rfl])
    have hAl : (WZ.alloc (.cells (nums .u8 [0, 0, 0, 0, 0, 0, 0, 0]).toArray 5)).heap[WZ.heap.size]? = some (.cells (nums .u8 [0, 0, 0, 0, 0, 0, 0, 0]).toArray 5 (0, 0)) := heap_alloc_new _ _
    have hBl : Below WZ.heap.size WZ (WZ.alloc (.cells (nums .u8 [0, 0, 0, 0, 0, 0, 0, 0]).toArray 5)) := below_alloc (Below.refl _ _) _
    have hsr := copy_src (Kd.reads_of_C (Kd.C_alloc hC (.cells (nums .u8 [0, 0, 0, 0, 0, 0, 0, 0]).toArray 5)))
    clear hC hl hD
    have hs1 : (Try.prog.info? 5).map (·.size) = some 1 := by rw [hi1, Option.map_some, hsz1]
    by_cases h8 : 8 ≤ l.length
    · have hcs : (nums .u8 (l.take 8)).length = 8 := by simp only [nums, List.length_map, List.length_take]; exact Nat.min_eq_left h8
      have hn : (nums .u8 (l.take 8)).length = Nat.min l.length 8 := hcs.trans (Nat.min_eq_right h8).symm
      have hpo : 0 < (nums .u8 (l.take 8)).length → some (⟨WZ.heap.size, 0, none⟩ : Addr) = some ⟨WZ.heap.size, 0, none⟩ ∧ ∃ ad, AD = some ad ∧ ∀ j v, (nums .u8 (l.take 8))[j]? = some v → (WZ.alloc (.cells (nums .u8 [0, 0, 0, 0, 0, 0, 0, 0]).toArray 5)).cell? (ad.add j) = some v := fun h0 => by
        obtain ⟨ad, e, hcell⟩ := hsr (by omega)
        refine ⟨rfl, ad, e, fun j v hv => hcell j v ?_⟩
        simp only [nums, List.map_take] at hv ⊢
        rw [List.getElem?_take] at hv
        split at hv
        · exact hv
        · cases hv
      have hfi : 0 + (nums .u8 (l.take 8)).length ≤ (nums .u8 [0, 0, 0, 0, 0, 0, 0, 0]).length := by rw [hcs]; decide
      have hon : ∀ v ∈ nums .u8 (l.take 8), v.oneCell' = true := by intro v hv; simp only [nums, List.mem_map] at hv; obtain ⟨a, _, rfl⟩ := hv; rfl
      have HSP : Aside0 (splice (nums .u8 [0, 0, 0, 0, 0, 0, 0, 0]) 0 (nums .u8 (l.take 8)) = nums .u8 (l.take 8)) := ⟨by
        unfold splice
        rw [hcs]
        exact List.append_nil _⟩
      have HCS := Aside0.mk hcs
      clear hsr hi1 hsz1
      cases gk with
      | zero => exact absurd HQ.out (by omega)
      | succ q =>
        obtain ⟨v, hv⟩ : ∃ v, leN (l.take 8) = v := ⟨_, rfl⟩
        have HV := Aside0.mk hv
        have HVW : Aside0 (W64 v) := ⟨by rw [← hv]; exact leN_w64 (byteL_take HY.out 8) (by rw [List.length_take]; omega)⟩
        clear hv
        have x5 : Go.bits .xor .u64 d0 v = Hand.xr d0 v := Hand.xor_u64 HP.out.2.2.2.1 HP.out.2.2.2.2 HVW.out.1 HVW.out.2
        have hsA : Sip (a0, b0, e0, Hand.xr d0 v) := ⟨HP.out.1, HP.out.2.1, HP.out.2.2.1, xr64_w HP.out.2.2.2 HVW.out⟩
        have HSA := Aside0.mk hsA
        have HS1 : Aside0 (Sip (sipR (a0, b0, e0, Hand.xr d0 v))) := ⟨sipR_bd hsA⟩
        have hs2 := sipR_bd HS1.out
        obtain ⟨a2, b2, e2, d2, hr2⟩ : ∃ a2 b2 e2 d2, sipR (sipR (a0, b0, e0, Hand.xr d0 v)) = (a2, b2, e2, d2) := ⟨_, _, _, _, rfl⟩
        rw [hr2] at hs2
        have HR2 := Aside0.mk hr2
        have x6 : Go.bits .xor .u64 a2 v = Hand.xr a2 v := Hand.xor_u64 hs2.1.1 hs2.1.2 HVW.out.1 HVW.out.2
        have HTK : Aside0 (sipTake (a0, b0, e0, d0) v = (Hand.xr a2 v, b2, e2, d2)) := ⟨by unfold sipTake; rw [hr2]⟩
        clear hsA hs2 hr2
        have hp8 : (p : Int) + 8 ≤ 9223372036854775807 := by have := HL.out; have h2 : l.length = l1.length - p := (by rw [← this, List.length_drop]); omega
        have hp0 : (0 : Int) ≤ (p : Int) := by omega
        have HT2 : Aside0 (tagEat (l1.drop (p + 8)).length (Hand.xr a2 v, b2, e2, d2) (l1.drop (p + 8)) = tagEat l1.length (tagStart k m) l1) := ⟨by
          have e8 : l1.drop (p + 8) = l.drop 8 := by rw [← HL.out, List.drop_drop]
          rw [← HT.out, e8, ← HTK.out, ← HV.out, tagEat_fuel l.length _ l (Nat.le_refl _) (l.length + 1) (by omega), tagEat_more _ _ l h8]
          exact tagEat_fuel _ _ _ (Nat.le_refl _) _ (by rw [List.length_drop]; omega)⟩
        have HQ2 : Aside0 ((l1.drop (p + 8)).length + 1 ≤ q) := ⟨by have := HQ.out; have h2 : l.length = l1.length - p := (by rw [← HL.out, List.length_drop]); rw [List.length_drop]; omega⟩
        have HPL2 : Aside0 (p + 8 ≤ l1.length) := ⟨by have h2 : l.length = l1.length - p := (by rw [← HL.out, List.length_drop]); omega⟩
        have HP2 : Aside0 (Sip (Hand.xr a2 v, b2, e2, d2)) := ⟨by rw [← HTK.out]; exact sipTake_bd HP.out HVW.out⟩
        go_wp2_with (first
          | ((with_reducible refine gate_builtin (b := .copy) (xs := #[.tmp 34, .tmp 37]) rfl ?_); go_loud (refine wpList_copy_splice rfl (.tmp 34) (.tmp 37) 22 22 rfl 5 Try.underlying22 hs1 _ AD 8 8 l.length _ rfl rfl WZ.heap.size 0 (nums .u8 [0, 0, 0, 0, 0, 0, 0, 0]) 5 hAl (nums .u8 (l.take 8)) hn hpo hfi hon WZ.heap.size WZ hBl (Nat.le_refl _) ?_; intro w9 hh hb9; have hh2 := hh.out; rw [HSP.out] at hh2; have HH := Aside0.mk hh2; have HB9 := Aside0.mk hb9; clear hh hh2 hb9 hAl hBl hn hpo hfi hon hs1))
          | (go_at_call 58; (with_reducible refine (long_le.calls (some ⟨WZ.heap.size, 0, none⟩) 8 (l.take 8) _ ?side1 (Nat.le_refl _) ?side3).mono ?_); (case side1 => have h := blk_C HH.out (by rw [List.length_take]; omega); rw [List.length_take, Nat.min_eq_left h8] at h; exact h); (case side3 => exact byteL_take HY.out _); rw [HV.out]; rintro e w' ⟨rfl, ⟨nd, rfl⟩⟩; have HF3 : Aside0 (FourS 90 W1 (w9.drewN nd) g (a0, b0, e0, d0)) := ⟨FourAt.drewN (FourS.below (T := 90) (s := (a0, b0, e0, d0)) HF.out HB9.out) nd⟩; have k3 := HF3.out.1.c3; have f3 := HF3.out.1.fz 3)
          | (go_at_call 59; (with_reducible refine (ref_round.s g _ W1 _ N2.out HS1.out).mono ?_); rintro e w' ⟨rfl, hf⟩; rw [HR2.out] at hf; have N3 := Aside0.mk hf; have k0 := N3.out.1.c0; have f0 := N3.out.1.fz 0; clear hf)
          | (go_at_call 59; have N1 : Aside0 (FourS 90 W1 ((w9.drewN nd).setCell ⟨g, 3, none⟩ (.int .u64 (Hand.xr d0 v))) g (a0, b0, e0, Hand.xr d0 v)) := ⟨FourAt.set3 HF3.out _⟩; clear k3 f3; (with_reducible refine (ref_round.s g _ W1 _ N1.out HSA.out).mono ?_); rintro e w' ⟨rfl, hf⟩; have N2 := Aside0.mk hf; clear hf))
        go_roundg q
        case measure => omega
        case rel => exact ⟨p + 8, (Hand.xr a2 v, b2, e2, d2), by first | rfl | simp, HQ2, HPL2, HP2, HT2, ⟨FourAt.set0 N3.out _⟩⟩
    · have h8b : decide ((l.length : Int) < 8) = true := decide_eq_true (by omega)
      have hcs : (nums .u8 l).length = l.length := by simp [nums]
      have hn : (nums .u8 l).length = Nat.min l.length 8 := hcs.trans (Nat.min_eq_left (by omega)).symm
      have hpo : 0 < (nums .u8 l).length → some (⟨WZ.heap.size, 0, none⟩ : Addr) = some ⟨WZ.heap.size, 0, none⟩ ∧ ∃ ad, AD = some ad ∧ ∀ j v, (nums .u8 l)[j]? = some v → (WZ.alloc (.cells (nums .u8 [0, 0, 0, 0, 0, 0, 0, 0]).toArray 5)).cell? (ad.add j) = some v := fun h0 => ⟨rfl, hsr (by rw [← hcs]; exact h0)⟩
      have hfi : 0 + (nums .u8 l).length ≤ (nums .u8 [0, 0, 0, 0, 0, 0, 0, 0]).length := by rw [hcs, Nat.zero_add]; show l.length ≤ 8; omega
      have hon : ∀ v ∈ nums .u8 l, v.oneCell' = true := by intro v hv; simp only [nums, List.mem_map] at hv; obtain ⟨a, _, rfl⟩ := hv; rfl
      have HSP := Aside0.mk (splice_zeros l (by omega))
      have HLT : Aside0 (l.length < 8) := ⟨by omega⟩
      clear hsr hi1 hsz1
      obtain ⟨v, hv⟩ : ∃ v, leN (tagEnd l l1.length) = v := ⟨_, rfl⟩
      have HV := Aside0.mk hv
      have HVW : Aside0 (W64 v) := ⟨by rw [← hv]; exact leN_w64 (tagEnd_byte l _ HY.out) (by rw [tagEnd_length l _ HLT.out]; exact Nat.le_refl _)⟩
      clear hv
      have x5 : Go.bits .xor .u64 d0 v = Hand.xr d0 v := Hand.xor_u64 HP.out.2.2.2.1 HP.out.2.2.2.2 HVW.out.1 HVW.out.2
      have hsA : Sip (a0, b0, e0, Hand.xr d0 v) := ⟨HP.out.1, HP.out.2.1, HP.out.2.2.1, xr64_w HP.out.2.2.2 HVW.out⟩
      have HSA := Aside0.mk hsA
      have HS1 : Aside0 (Sip (sipR (a0, b0, e0, Hand.xr d0 v))) := ⟨sipR_bd hsA⟩
      have hs2 := sipR_bd HS1.out
      obtain ⟨a2, b2, e2, d2, hr2⟩ : ∃ a2 b2 e2 d2, sipR (sipR (a0, b0, e0, Hand.xr d0 v)) = (a2, b2, e2, d2) := ⟨_, _, _, _, rfl⟩
      rw [hr2] at hs2
      have HR2 := Aside0.mk hr2
      have x6 : Go.bits .xor .u64 a2 v = Hand.xr a2 v := Hand.xor_u64 hs2.1.1 hs2.1.2 HVW.out.1 HVW.out.2
      have HTK : Aside0 (sipTake (a0, b0, e0, d0) v = (Hand.xr a2 v, b2, e2, d2)) := ⟨by unfold sipTake; rw [hr2]⟩
      have x7 : Go.bits .xor .u64 e2 255 = Hand.xr e2 255 := Hand.xor_u64 hs2.2.2.1.1 hs2.2.2.1.2 (by decide) (by decide)
      have HP2 : Aside0 (Sip (Hand.xr a2 v, b2, Hand.xr e2 255, d2)) := ⟨xr64_w hs2.1 HVW.out, hs2.2.1, xr64_w hs2.2.2.1 ⟨by decide, by decide⟩, hs2.2.2.2⟩
      have HLY : Aside0 (lowN 8 (sipX (sipN 4 (Hand.xr a2 v, b2, Hand.xr e2 255, d2))) = r) := ⟨by
        have h := HE.out
        rw [← HT.out, tagEat_done _ _ _ HLT.out] at h
        have h2 : tagLast (sipTake (a0, b0, e0, d0) (leN (tagEnd l l1.length))) = r := h
        rw [HV.out, HTK.out] at h2
        exact h2⟩
      clear hsA hs2 hr2
      go_wp2_with (first
        | ((with_reducible refine gate_builtin (b := .copy) (xs := #[.tmp 34, .tmp 37]) rfl ?_); go_loud (refine wpList_copy_splice rfl (.tmp 34) (.tmp 37) 22 22 rfl 5 Try.underlying22 hs1 _ AD 8 8 l.length _ rfl rfl WZ.heap.size 0 (nums .u8 [0, 0, 0, 0, 0, 0, 0, 0]) 5 hAl (nums .u8 l) hn hpo hfi hon WZ.heap.size WZ hBl (Nat.le_refl _) ?_; intro w9 hh hb9; have hh2 := hh.out; rw [HSP.out] at hh2; have HH := Aside0.mk hh2; have HB9 := Aside0.mk hb9; have f7 := blk_frozen hh2 7; have k7 : w9.cell? ⟨WZ.heap.size, 7, none⟩ = some (.int .u8 ((l ++ List.replicate (8 - l.length) 0).getD 7 0)) := (blk_cell hh2 7).trans (by have h7 : 7 < (l ++ List.replicate (8 - l.length) (0 : Int)).length := (by rw [List.length_append, List.length_replicate]; omega); simp only [nums, List.getElem?_toArray, List.getElem?_map, List.getElem?_eq_getElem h7, List.getD_eq_getElem?_getD, Option.map_some, Option.getD_some]); clear hh hh2 hb9 hAl hBl hn hpo hfi hon hs1))
        | (go_at_call 58; clear k7 f7; have HH2 : Aside0 ((w9.setCell ⟨WZ.heap.size, 7, none⟩ (.int .u8 ((l1.length : Int) % 256))).heap[WZ.heap.size]? = some (.cells (nums .u8 (tagEnd l l1.length)).toArray 5 (0, 0))) := ⟨blk_put HH.out 7 _ (by simp [nums, tagEnd, List.map_set])⟩; (with_reducible refine (long_le.calls (some ⟨WZ.heap.size, 0, none⟩) 8 (tagEnd l l1.length) _ ?side1 (Nat.le_refl _) ?side3).mono ?_); (case side1 => have h := blk_C HH2.out (by rw [tagEnd_length l _ HLT.out]; decide); rw [tagEnd_length l _ HLT.out] at h; exact h); (case side3 => exact tagEnd_byte l _ HY.out); rw [HV.out]; rintro e w' ⟨rfl, ⟨nd, rfl⟩⟩; have HF3 : Aside0 (FourS 90 W1 ((w9.setCell ⟨WZ.heap.size, 7, none⟩ (.int .u8 ((l1.length : Int) % 256))).drewN nd) g (a0, b0, e0, d0)) := ⟨FourAt.drewN (FourS.below (T := 90) (s := (a0, b0, e0, d0)) HF.out (below_set HB9.out (Nat.le_refl _))) nd⟩; have k3 := HF3.out.1.c3; have f3 := HF3.out.1.fz 3)
        | (go_at_call 59; (with_reducible refine (ref_round.s g _ W1 _ N2.out HS1.out).mono ?_); rintro e w' ⟨rfl, hf⟩; rw [HR2.out] at hf; have N3 := Aside0.mk hf; have k0 := N3.out.1.c0; have f0 := N3.out.1.fz 0; have k2 := N3.out.1.c2; have f2 := N3.out.1.fz 2; clear hf)
        | (go_at_call 59; have N1 : Aside0 (FourS 90 W1 (((w9.setCell ⟨WZ.heap.size, 7, none⟩ (.int .u8 ((l1.length : Int) % 256))).drewN nd).setCell ⟨g, 3, none⟩ (.int .u64 (Hand.xr d0 v))) g (a0, b0, e0, Hand.xr d0 v)) := ⟨FourAt.set3 HF3.out _⟩; clear k3 f3; (with_reducible refine (ref_round.s g _ W1 _ N1.out HSA.out).mono ?_); rintro e w' ⟨rfl, hf⟩; have N2 := Aside0.mk hf; clear hf))
      clear x5 x6 x7 k0 f0 k2 f2
      have N4 : Aside0 (FourS 90 W1 ((w'.setCell ⟨g, 0, none⟩ (.int .u64 (Hand.xr a2 v))).setCell ⟨g, 2, none⟩ (.int .u64 (Hand.xr e2 255))) g (Hand.xr a2 v, b2, Hand.xr e2 255, d2)) := ⟨FourAt.set2 (FourAt.set0 N3.out _) _⟩
      go_loopg [12] 4 (fun q s12 wx => ∃ i : Nat, i + q = 4 ∧ s12 = .int .i64 i ∧ Aside0 (FourS 90 W1 wx g (sipN i (Hand.xr a2 v, b2, Hand.xr e2 255, d2))))
      case atStart => exact ⟨0, by omega, rfl, N4⟩
      case round =>
        clear N4
        obtain ⟨i, hig, rfl, HN⟩ := hrel
        cases gk with
        | succ q =>
          have hi : i < 4 := by omega
          have hi2 : (i : Int) < 4 := by omega
          go_wp2_with (first | (go_at_call 59; (with_reducible refine (ref_round.s g _ W1 _ HN.out (sipN_bd HP2.out _)).mono ?_); rintro e w' ⟨rfl, hf⟩; have HN2 := Aside0.mk hf; clear hf))
          go_roundg q
          case measure => omega
          case rel => exact ⟨i + 1, by omega, by first | rfl | simp, HN2⟩
        | zero =>
          obtain rfl : i = 4 := by omega
          clear hig
          obtain ⟨a3, b3, e3, d3, hs3⟩ : ∃ a3 b3 e3 d3, sipN 4 (Hand.xr a2 v, b2, Hand.xr e2 255, d2) = (a3, b3, e3, d3) := ⟨_, _, _, _, rfl⟩
          have hp3 := sipN_bd HP2.out 4
          have hly := HLY.out
          rw [hs3] at HN hp3 hly
          obtain ⟨x, hx⟩ : ∃ x, sipX (a3, b3, e3, d3) = x := ⟨_, rfl⟩
          rw [hx] at hly
          have HLZ := Aside0.mk hly
          have k0 := HN.out.1.c0
          have k1 := HN.out.1.c1
          have k2 := HN.out.1.c2
          have k3 := HN.out.1.c3
          have y1 : Go.bits .xor .u64 a3 b3 = Hand.xr a3 b3 := Hand.xor_u64 hp3.1.1 hp3.1.2 hp3.2.1.1 hp3.2.1.2
          have hw1 := xr64_w hp3.1 hp3.2.1
          have y2 : Go.bits .xor .u64 (Hand.xr a3 b3) e3 = Hand.xr (Hand.xr a3 b3) e3 := Hand.xor_u64 hw1.1 hw1.2 hp3.2.2.1.1 hp3.2.2.1.2
          have hw2 := xr64_w hw1 hp3.2.2.1
          have y3 : Go.bits .xor .u64 (Hand.xr (Hand.xr a3 b3) e3) d3 = x := (Hand.xor_u64 hw2.1 hw2.2 hp3.2.2.2.1 hp3.2.2.2.2).trans hx
          clear hw1 hw2 hp3 hs3 hly HLY hx
          have HBW : Aside0 (Below w.heap.size w wr) := ⟨HB1.out.trans (HN.out.2.1.mono HGE.out)⟩
          go_wp2
          clear k0 k1 k2 k3 y1 y2 y3
          go_loopg [14, 15] 8 (fun q s14 s15 wx => ∃ i : Nat, i + q = 8 ∧ s15 = .int .i64 i ∧ Aside0 (Kd.R (Kd.int .u8) 5 wx w.heap.size (fun _ => True) s14 (lowF x i)) ∧ Aside0 (Below w.heap.size w wx))
          case atStart => exact ⟨0, by omega, rfl, ⟨Kd.R_nil _ _ _ _ _⟩, HBW⟩
          case round =>
            clear HBW
            obtain ⟨i, hig, rfl, HO, HB⟩ := hrel
            cases gk with
            | succ q =>
              have hi : i < 8 := by omega
              have hi2 : (i : Int) < 8 := by omega
              have e1 : IntKind.i64.wrap (8 * (i : Int)) = ((8 * i : Nat) : Int) := by rw [i64_w, Hand.w64 (by omega) (by omega)]; omega
              obtain ⟨j, hj⟩ : ∃ j : Nat, 8 * i = j := ⟨_, rfl⟩
              rw [hj] at e1
              have hj0 : (0 : Int) ≤ (j : Int) := by omega
              have HLI : Aside0 ((lowF x i).length = i) := ⟨lowF_length x i⟩
              have HJ : Aside0 (lowF x (i + 1) = lowF x i ++ [x / 2 ^ j % 256]) := ⟨by rw [lowF, ← hj, ← pow_low]⟩
              have HI := Aside0.mk hi
              obtain ⟨Ao, co, eo⟩ := Kd.R_slice HO.out
              subst eo
              go_wp2_with ((with_reducible refine gate_builtin (b := .append) (xs := #[.tmp 86, .tmp 92]) rfl ?_); at_builtin; refine Kd.R_append (Kd.int .u8) (w0 := w) w.heap.size rfl (.tmp 86) (.tmp 92) 22 5 (.int .u8 0) 1 rfl Try.underlying22 info5 rfl (by decide) (by omega) _ (lowF x i) (x / 2 ^ j % 256) [.int .u8 (x / 2 ^ j % 256)] (fun _ => True) (fun _ => False) rfl rfl ?aP (fun _ hk => hk.elim) ?aF ?aO ?aB ?aS ?aL ?_; (case aP => exact rfl); (case aF => exact (fun _ _ => trivial)); (case aO => exact HO.out); (case aB => exact HB.out); (case aS => exact HB.out.size); (case aL => rw [HLI.out]; have h := HI.out; clear e1; omega); intro v9 w9 ho hb hg hat; rw [← HJ.out] at ho; have HO2 := Aside0.mk ho; have HB2 := Aside0.mk hb; clear ho hb hg hat)
              clear e1
              go_roundg q
              case measure => omega
              case rel => exact ⟨i + 1, by omega, by first | rfl | simp, HO2, HB2⟩
            | zero =>
              obtain rfl : i = 8 := by omega
              go_wp2
              go_ret
              exact ⟨_, rfl, by rw [← HLZ.out, ← lowF_is]; exact HO.out, HB.out⟩

/-! ### wireglassref21_high: function 49 -/
def wireglassref21_high.l0 : Nat → Int → List Int → Int → Option (List Int)
  | 0, _, _, _ => none
  | k + 1, x0, x5, x6 => if x6 ≥ 0 then (if 0 ≤ x6 then (if x6 < (x5.length : Int) then (wireglassref21_high.l0 k (x0 / 256) (x5.set (x6 : Int).toNat ((x0) % 256)) (wrap64 (x6 - 1))) else (none)) else (none)) else (some x5)
def wireglassref21_high.f (k : Nat) (a0 : Int) (a1 : Int) : Option (List Int) := if 0 ≤ a1 then (if (a1 : Int).toNat ≤ 281474976710656 then (wireglassref21_high.l0 k a0 (List.replicate (a1 : Int).toNat 0) (wrap64 (a1 - 1))) else (none)) else (none)
theorem wireglassref21_high.mono_l : ∀ k, (∀ y0 y1 y2, LeO (wireglassref21_high.l0 k y0 y1 y2) (wireglassref21_high.l0 (k + 1) y0 y1 y2))
  | 0 => fun _ _ _ r h => by simp [wireglassref21_high.l0] at h
  | k + 1 => by
    have ih0 := wireglassref21_high.mono_l k
    · intro y0 y1 y2
      unfold wireglassref21_high.l0
      repeat' first
      | (with_reducible exact ih0 _ _ _)
      | (with_reducible exact LeO.refl _)
      | (with_reducible exact LeO.none _)
      | (with_reducible refine LeO.ite ?_ ?_)
      | (with_reducible refine LeO.bind ?_ (fun _ => ?_))
      | exact ih0 _ _ _
      | exact LeO.none _
      | refine LeO.ite ?_ ?_
      | refine LeO.bind ?_ (fun _ => ?_)
theorem wireglassref21_high.mono : ∀ a0 a1 k, LeO (wireglassref21_high.f k a0 a1) (wireglassref21_high.f (k + 1) a0 a1) := by
  intro a0 a1 k
  have ih0 := wireglassref21_high.mono_l k
  unfold wireglassref21_high.f
  repeat' first
      | (with_reducible exact ih0 _ _ _)
      | (with_reducible exact LeO.refl _)
      | (with_reducible exact LeO.none _)
      | (with_reducible refine LeO.ite ?_ ?_)
      | (with_reducible refine LeO.bind ?_ (fun _ => ?_))
      | exact ih0 _ _ _
      | exact LeO.none _
      | refine LeO.ite ?_ ?_
      | refine LeO.bind ?_ (fun _ => ?_)
set_option maxHeartbeats 8000000 in
set_option maxRecDepth 100000 in
theorem wireglassref21_high.calls (k : Nat) (a0 : Int) (a1 : Int) (r : List Int) (w : World) (h : wireglassref21_high.f k a0 a1 = some r) :
    Calls Try.prog 49 #[.int .i64 a0, .int .i64 a1] w fun e w' => ∃ v0_ : Value, e = .returned (v0_) ∧ Kd.R (Kd.int .u8) 5 w' w.heap.size (fun _ => True) v0_ r ∧ Below w.heap.size w w' := by
  have HB := Aside0.mk (Below.refl w.heap.size w)
  have H : (if 0 ≤ a1 then (if (a1 : Int).toNat ≤ 281474976710656 then (wireglassref21_high.l0 k a0 (List.replicate (a1 : Int).toNat 0) (wrap64 (a1 - 1))) else (none)) else (none)) = some r := h
  clear h
  by_cases c3 : 0 ≤ a1
  · rw [if_pos c3] at H
    have c3b0 := eq_true c3
    have c3b1 : decide (0 ≤ a1) = true := decide_eq_true c3
    clear c3
    by_cases c4 : (a1 : Int).toNat ≤ 281474976710656
    · rw [if_pos c4] at H
      have c4b0 := eq_true c4
      have c4b1 : decide ((a1 : Int).toNat ≤ 281474976710656) = true := decide_eq_true c4
      clear c4
      obtain ⟨y195, hy195⟩ : ∃ y_ : List Int, y_ = (List.replicate (a1 : Int).toNat 0) := ⟨_, rfl⟩
      replace H : (wireglassref21_high.l0 k a0 y195 (wrap64 (a1 - 1))) = some r := by first | (rw [hy195]; with_reducible exact H) | (have H2_ := (Option.bind_some _ _).symm.trans H; rw [hy195]; with_reducible exact H2_) | (have H2_ := (Option.bind_some _ _).symm.trans H; with_reducible exact H2_) | with_reducible exact H | (rw [hy195]; exact H) | exact H
      have Ny195 := Aside0.mk hy195
      clear hy195
      have H' := Aside0.mk H
      clear H
      go_enter Try.func49, Try.ntmps49
      go_wp2_with (first | ((with_reducible refine gate_dst (N := 8) rfl ?_); refine Kd.R_make (Kd.int .u8) _ 5 rfl (N := 8) rfl 22 _ _ rfl a1 rfl rfl Try.underlying22 (.int .u8 0) 1 info5 rfl (by decide) (by omega) 0 (ok := fun _ => True) (okp := fun _ => True) rfl (fun _ hk => hk) trivial (of_decide_eq_true (by first | (with_reducible assumption) | assumption)) (Nat.le_trans (Nat.mul_le_mul_right _ (of_decide_eq_true (by first | (with_reducible assumption) | assumption) : a1.toNat ≤ 281474976710656)) (by omega)) (Below.refl _ _) (Nat.le_refl _) ?_; intro v196 w5 ho6 hb hg_ hnew_; clear hg_ hnew_; (first | rw [← Ny195.out] at ho6 | (simp only [Int.reduceToNat] at ho6; rw [← Ny195.out] at ho6)); have n0_ := Aside0.mk (Kd.R_lower ho6 (below_size (by repeat (first | (with_reducible first | exact HB.out | apply below_alloc | apply pw_below_drewN | apply below_drew1) | exact HB.out)))); have n1_ := Aside0.mk (below_step (by repeat (first | (with_reducible first | exact HB.out | apply below_alloc | apply pw_below_drewN | apply below_drew1) | exact HB.out)) hb); clear HB; have HO197 := n0_; have HB := n1_; clear n0_ n1_; clear hb ho6))
      go_loopg [0, 6] k (fun kq v0 v6 w' => ∃ (x0_1 : Int) (x5_1 : List Int) (x6_1 : Int), v0 = .int .i64 x0_1 ∧ v6 = .int .i64 x6_1 ∧ Aside0 (wireglassref21_high.l0 kq x0_1 x5_1 x6_1 = some r) ∧ Aside0 (kq ≤ k) ∧ Aside0 (Kd.R (Kd.int .u8) 5 w' w.heap.size (fun _ => True) v196 x5_1) ∧ Aside0 (Below w.heap.size w w'))
      case atStart => exact ⟨(a0), (y195), (wrap64 (a1 - 1)), (by first | rfl | (simp; done) | (simp [*]; done)), (by first | rfl | (simp; done) | (simp [*]; done)), H', ⟨Nat.le_refl _⟩, ⟨by (with_reducible repeat (first | apply Kd.R_alloc | apply Kd.R_drewN | apply Kd.R_drew)); exact HO197.out⟩, ⟨by repeat (first | (with_reducible first | exact HB.out | apply below_alloc | apply pw_below_drewN | apply below_drew1) | exact HB.out)⟩⟩
      case round =>
        clear H'
        try clear p2
        try clear c3
        try clear c3b0
        try clear c3b1
        try clear c4
        try clear c4b0
        try clear c4b1
        try clear p6
        obtain ⟨x0_1, x5_1, x6_1, rfl, rfl, HA, HK1, HO_5, HB⟩ := hrel
        cases gk with
        | zero => exact absurd HA.out (by simp [wireglassref21_high.l0])
        | succ k1 =>
          have H := HA.out
          clear HA
          simp only [wireglassref21_high.l0] at H
          by_cases c7 : x6_1 ≥ 0
          · rw [if_pos c7] at H
            have c7b0 : decide (0 ≤ x6_1) = true := decide_eq_true c7
            clear c7
            by_cases c8 : 0 ≤ x6_1
            · rw [if_pos c8] at H
              have c8b0 : decide (0 ≤ x6_1) = true := decide_eq_true c8
              clear c8
              by_cases c9 : x6_1 < (x5_1.length : Int)
              · rw [if_pos c9] at H
                have c9b0 : decide (x6_1 < (x5_1.length : Int)) = true := decide_eq_true c9
                clear c9
                obtain ⟨y198, hy198⟩ : ∃ y_ : List Int, y_ = (x5_1.set (x6_1 : Int).toNat ((x0_1) % 256)) := ⟨_, rfl⟩
                replace H : (wireglassref21_high.l0 k1 (x0_1 / 256) y198 (wrap64 (x6_1 - 1))) = some r := by first | (rw [hy198]; with_reducible exact H) | (have H2_ := (Option.bind_some _ _).symm.trans H; rw [hy198]; with_reducible exact H2_) | (have H2_ := (Option.bind_some _ _).symm.trans H; with_reducible exact H2_) | with_reducible exact H | (rw [hy198]; exact H) | exact H
                have Ny198 := Aside0.mk hy198
                clear hy198
                have H' := Aside0.mk H
                clear H
                have p10 : 0 ≤ (x6_1 : Int) := of_decide_eq_true (by first | (with_reducible assumption) | assumption)
                have q10 : (x6_1 : Int) < ((x5_1.length : Int) : Int) := of_decide_eq_true (by first | (with_reducible assumption) | assumption)
                obtain ⟨go10, co10, eo10, gb10, gl10, cl10, HG10⟩ := Kd.R_form HO_5.out (by omega)
                (first | cases eo10 | (injection eo10 with ea_ en_ ec_; (first | subst ea_ | (injection ea_ with ea_; subst ea_)); subst ec_; clear en_))
                have GB10 := Aside0.mk gb10
                have GG10 := Aside0.mk HG10
                clear gb10 gl10 HG10
                obtain ⟨hx10_0, hf10_0⟩ := Kd.R_celln 0 HO_5.out (x6_1 : Int) p10 q10
                replace p10 := eq_true p10
                replace q10 := eq_true q10
                have HP11 := Kd.R_putg HO_5.out (x6_1 : Int) ((x0_1) % 256)
                go_wp2_with (first | ((with_reducible refine gate_store (t := 5) (p := 19) rfl ?_); refine store_event (t := 5) (p := 19) (v := ?vo_w12) (w1 := (wr.setCell ⟨go10, (x6_1 : Int).toNat, none⟩ (.int .u8 ((x0_1) % 256)))) ?hg ?ho ?hn ?hr ?_; (case ho => rfl); (case hg => rfl); (case hn => rfl); (case hr => first | (go_simp; done) | (go_simp; rfl)); intro w12 hw; have hg : wr.grownBy w12 (some go10) := (by rw [hw]; exact HP11.2); have hp_ : Kd.R (Kd.int .u8) 5 w12 w.heap.size (fun _ => True) (.slice (some ⟨go10, 0, none⟩) x5_1.length co10) y198 := (by rw [hw, Ny198.out]; exact HP11.1); clear HP11; have n0_ := Aside0.mk (hp_); have n1_ := Aside0.mk ((by rw [hw]; exact below_set (HB.out) GB10.out : Below w.heap.size w w12)); clear HO_5; clear HB; have HO_5 := n0_; have HB := n1_; clear n0_ n1_; clear hg hw hp_))
                go_roundg k1
                case measure => have := HK1.out; omega
                case rel => exact ⟨(x0_1 / 256), (y198), (wrap64 (x6_1 - 1)), (by first | rfl | (simp; done) | (simp [*]; done)), (by first | rfl | (simp; done) | (simp [*]; done)), H', ⟨by have := HK1.out; omega⟩, ⟨by (with_reducible repeat (first | apply Kd.R_alloc | apply Kd.R_drewN | apply Kd.R_drew)); exact HO_5.out⟩, ⟨by repeat (first | (with_reducible first | exact HB.out | apply below_alloc | apply pw_below_drewN | apply below_drew1) | exact HB.out)⟩⟩
              · rw [if_neg c9] at H
                exact absurd H (by simp)
            · rw [if_neg c8] at H
              exact absurd H (by simp)
          · rw [if_neg c7] at H
            have c7b0 : decide (0 ≤ x6_1) = false := decide_eq_false c7
            clear c7
            obtain rfl := Option.some.inj H
            go_wp2
            go_ret
            exact ⟨_, by first | rfl | (simp [errW_none, errW_some] <;> rfl) | (simp [*, errW_none, errW_some] <;> rfl), by (with_reducible repeat (first | apply Kd.R_alloc | apply Kd.R_drewN | apply Kd.R_drew)); exact HO_5.out, by repeat (first | (with_reducible first | exact HB.out | apply below_alloc | apply pw_below_drewN | apply below_drew1) | exact HB.out)⟩
    · rw [if_neg c4] at H
      exact absurd H (by simp)
  · rw [if_neg c3] at H
    exact absurd H (by simp)

-- NOT PRINTED: function 62 (wireglassref21_Session_nonce)

-- NOT PRINTED: function 47 (wireglassref21_Session_sealed)

-- NOT PRINTED: function 48 (wireglassref21_Session_crypted)

-- NOT PRINTED: function 24 (wireglassref21_Session_Read)

-- NOT PRINTED: function 29 (key_Session_Ticket)

end Go.Proofs.Ytpkmfaloncclaaa.K
