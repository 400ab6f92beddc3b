/- Laid by a program of this repo over the translation: each Go function as a plain Lean function with the proof that the call comes to its answers, or a statement's row out of these; conditions: the hypotheses of each theorem. -/
import Derived.Test.YtbdakgkjomanlaaDoorDx0
namespace Go.Proofs.YtbdakgkjomanlaaDoor.D
open Go.RowKit Go.Proofs.YtbdakgkjomanlaaDoorW.PrintWords Go.Proofs.YtbdakgkjomanlaaDoorW.PrintLast Go.Proofs.YtbdakgkjomanlaaDoorW.PrintMore
attribute [local go_sem] max2_int min2_int max_two min_two max_three min_three max_four min_four   -- for this text's walks alone
set_option linter.unusedVariables false
set_option linter.unusedSimpArgs false

/-! ### wide_Get: function 38 -/
def wide_Get.l0 : Nat → List Int → Bool → Int → Int → Int → Option (Int)
  | 0, _, _, _, _, _ => none
  | k + 1, x0, x1, x5, x8, x9 => if x9 < x8 then (if x1 = true then (if 0 ≤ (wrap64 ((wrap64 ((x0.length : Int) - 1)) - x9)) then (if (wrap64 ((wrap64 ((x0.length : Int) - 1)) - x9)) < (x0.length : Int) then (wide_Get.l0 k x0 x1 (Go.bits .or .u64 (IntKind.u64.wrap (x5 * 256)) (IntKind.u64.wrap (rd x0 (wrap64 ((wrap64 ((x0.length : Int) - 1)) - x9))))) x8 (wrap64 (x9 + 1))) else (none)) else (none)) else (if 0 ≤ x9 then (if x9 < (x0.length : Int) then (wide_Get.l0 k x0 x1 (Go.bits .or .u64 (IntKind.u64.wrap (x5 * 256)) (IntKind.u64.wrap (rd x0 x9))) x8 (wrap64 (x9 + 1))) else (none)) else (none))) else (some x5)
def wide_Get.f (k : Nat) (l0 : List Int) (a1 : Bool) : Option (Int) := wide_Get.l0 k l0 a1 0 (l0.length : Int) 0
theorem wide_Get.mono_l : ∀ k, (∀ y0 y1 y2 y3 y4, LeO (wide_Get.l0 k y0 y1 y2 y3 y4) (wide_Get.l0 (k + 1) y0 y1 y2 y3 y4))
  | 0 => fun _ _ _ _ _ r h => by simp [wide_Get.l0] at h
  | k + 1 => by
    have ih0 := wide_Get.mono_l k
    · intro y0 y1 y2 y3 y4
      unfold wide_Get.l0
      repeat' first
      | (with_reducible exact ih0 _ _ _ _ _)
      | (with_reducible exact LeO.refl _)
      | (with_reducible exact LeO.none _)
      | (with_reducible refine LeO.ite ?_ ?_)
      | (with_reducible refine LeO.bind ?_ (fun _ => ?_))
      | exact ih0 _ _ _ _ _
      | exact LeO.none _
      | refine LeO.ite ?_ ?_
      | refine LeO.bind ?_ (fun _ => ?_)
theorem wide_Get.mono : ∀ a0 a1 k, LeO (wide_Get.f k a0 a1) (wide_Get.f (k + 1) a0 a1) := by
  intro a0 a1 k
  have ih0 := wide_Get.mono_l k
  unfold wide_Get.f
  repeat' first
      | (with_reducible exact ih0 _ _ _ _ _)
      | (with_reducible exact LeO.refl _)
      | (with_reducible exact LeO.none _)
      | (with_reducible refine LeO.ite ?_ ?_)
      | (with_reducible refine LeO.bind ?_ (fun _ => ?_))
      | exact ih0 _ _ _ _ _
      | exact LeO.none _
      | refine LeO.ite ?_ ?_
      | refine LeO.bind ?_ (fun _ => ?_)
set_option maxHeartbeats 8000000 in
set_option maxRecDepth 100000 in
theorem wide_Get.calls (k : Nat) (A0 : Option Addr) (c0 : Nat) (l0 : List Int) (a1 : Bool) (r : Int) (w : World) (hr0 : Kd.C (Kd.int .u8) w A0 l0.length l0) (hc0 : l0.length ≤ c0) (h : wide_Get.f k l0 a1 = some r) :
    Calls Tryd.prog 38 #[.slice A0 l0.length c0, .bool a1] w fun e w' => e = .returned (.int .u64 r) ∧ Drawn0 w w' := by
  have HR0 := Aside0.mk hr0
  have HC0 := Aside0.mk hc0
  clear hr0 hc0
  have H : (wide_Get.l0 k l0 a1 0 (l0.length : Int) 0) = some r := h
  clear h
  have H' := Aside0.mk H
  clear H
  go_enter Tryd.func38, Tryd.ntmps38
  go_wp2
  go_loopg [5, 9] k (fun kq v5 v9 w' => ∃ (x5_1 : Int) (x9_1 : Int), v5 = .int .u64 x5_1 ∧ v9 = .int .i64 x9_1 ∧ Aside0 (wide_Get.l0 kq l0 a1 x5_1 (l0.length : Int) x9_1 = some r) ∧ Aside0 (kq ≤ k) ∧ Drawn0 w w')
  case atStart => exact ⟨(0), (0), (by first | rfl | (simp; done) | (simp [*]; done)), (by first | rfl | (simp; done) | (simp [*]; done)), H', ⟨Nat.le_refl _⟩, by repeat (first | exact Drawn0.refl _ | apply Drawn0.step)⟩
  case round =>
    clear H'
    try clear p2
    obtain ⟨x5_1, x9_1, rfl, rfl, HA, HK1, ⟨m1, rfl⟩⟩ := hrel
    cases gk with
    | zero => exact absurd HA.out (by simp [wide_Get.l0])
    | succ k1 =>
      have H := HA.out
      clear HA
      simp only [wide_Get.l0] at H
      by_cases c3 : x9_1 < (l0.length : Int)
      · rw [if_pos c3] at H
        have c3b0 : decide (x9_1 < (l0.length : Int)) = true := decide_eq_true c3
        clear c3
        by_cases c4 : a1 = true
        · subst c4
          have H1 : (if 0 ≤ (wrap64 ((wrap64 ((l0.length : Int) - 1)) - x9_1)) then (if (wrap64 ((wrap64 ((l0.length : Int) - 1)) - x9_1)) < (l0.length : Int) then (wide_Get.l0 k1 l0 true (Go.bits .or .u64 (IntKind.u64.wrap (x5_1 * 256)) (IntKind.u64.wrap (rd l0 (wrap64 ((wrap64 ((l0.length : Int) - 1)) - x9_1))))) (l0.length : Int) (wrap64 (x9_1 + 1))) else (none)) else (none)) = some r := by rw [if_pos rfl] at H; exact H
          clear H
          have H := H1
          clear H1
          obtain ⟨ji5, hji5⟩ : ∃ j_ : Int, (wrap64 ((wrap64 ((l0.length : Int) - 1)) - x9_1)) = j_ := ⟨_, rfl⟩
          replace H : (if 0 ≤ (ji5) then (if (ji5) < (l0.length : Int) then (wide_Get.l0 k1 l0 true (Go.bits .or .u64 (IntKind.u64.wrap (x5_1 * 256)) (IntKind.u64.wrap (rd l0 (ji5)))) (l0.length : Int) (wrap64 (x9_1 + 1))) else (none)) else (none)) = some r := by first | (rw [hji5] at H; exact H) | (simp only [hji5] at H ⊢; exact H)
          have hji5w : (IntKind.i64.wrap ((wrap64 ((l0.length : Int) - 1)) - x9_1)) = ji5 := (i64_w _).trans hji5
          by_cases c6 : 0 ≤ (ji5)
          · rw [if_pos c6] at H
            have c6b0 : decide (0 ≤ (ji5)) = true := decide_eq_true c6
            clear c6
            by_cases c7 : (ji5) < (l0.length : Int)
            · rw [if_pos c7] at H
              have c7b0 : decide ((ji5) < (l0.length : Int)) = true := decide_eq_true c7
              clear c7
              have H' := Aside0.mk H
              clear H
              have p101 : 0 ≤ ((ji5) : Int) := of_decide_eq_true (by first | (with_reducible assumption) | assumption)
              have q101 : (ji5) < (l0.length : Int) := of_decide_eq_true (by first | (with_reducible assumption) | assumption)
              obtain ⟨ad101, e101, hx101_0⟩ := Kd.at_int HR0.out (ji5) p101 q101
              cases e101
              replace p101 := eq_true p101
              replace q101 := eq_true q101
              go_wp2
              go_roundg k1
              case measure => have := HK1.out; omega
              case rel => exact ⟨(Go.bits .or .u64 (IntKind.u64.wrap (x5_1 * 256)) (IntKind.u64.wrap (rd l0 (ji5)))), (wrap64 (x9_1 + 1)), (by first | rfl | (simp; done) | (simp only [← hji5] <;> (first | rfl | simp)) | (simp [*]; done)), (by first | rfl | (simp; done) | (simp [*]; done)), H', ⟨by have := HK1.out; omega⟩, by repeat (first | exact Drawn0.refl _ | apply Drawn0.step)⟩
            · rw [if_neg c7] at H
              exact absurd H (by simp)
          · rw [if_neg c6] at H
            exact absurd H (by simp)
        · replace c4 := Bool.eq_false_iff.mpr c4
          subst c4
          have H1 : (if 0 ≤ x9_1 then (if x9_1 < (l0.length : Int) then (wide_Get.l0 k1 l0 false (Go.bits .or .u64 (IntKind.u64.wrap (x5_1 * 256)) (IntKind.u64.wrap (rd l0 x9_1))) (l0.length : Int) (wrap64 (x9_1 + 1))) else (none)) else (none)) = some r := by rw [if_neg (show ¬ (false = true) by decide)] at H; exact H
          clear H
          have H := H1
          clear H1
          by_cases c8 : 0 ≤ x9_1
          · rw [if_pos c8] at H
            have c8b0 : decide (0 ≤ x9_1) = true := decide_eq_true c8
            clear c8
            by_cases c9 : x9_1 < (l0.length : Int)
            · rw [if_pos c9] at H
              have c9b0 : decide (x9_1 < (l0.length : Int)) = true := decide_eq_true c9
              clear c9
              have H' := Aside0.mk H
              clear H
              have p102 : 0 ≤ (x9_1 : Int) := of_decide_eq_true (by first | (with_reducible assumption) | assumption)
              have q102 : x9_1 < (l0.length : Int) := of_decide_eq_true (by first | (with_reducible assumption) | assumption)
              obtain ⟨ad102, e102, hx102_0⟩ := Kd.at_int HR0.out x9_1 p102 q102
              cases e102
              replace p102 := eq_true p102
              replace q102 := eq_true q102
              go_wp2
              go_roundg k1
              case measure => have := HK1.out; omega
              case rel => exact ⟨(Go.bits .or .u64 (IntKind.u64.wrap (x5_1 * 256)) (IntKind.u64.wrap (rd l0 x9_1))), (wrap64 (x9_1 + 1)), (by first | rfl | (simp; done) | (simp [*]; done)), (by first | rfl | (simp; done) | (simp [*]; done)), H', ⟨by have := HK1.out; omega⟩, by repeat (first | exact Drawn0.refl _ | apply Drawn0.step)⟩
            · rw [if_neg c9] at H
              exact absurd H (by simp)
          · rw [if_neg c8] at H
            exact absurd H (by simp)
      · rw [if_neg c3] at H
        have c3b0 : decide (x9_1 < (l0.length : Int)) = false := decide_eq_false c3
        clear c3
        obtain rfl := Option.some.inj H
        go_wp2
        go_ret
        exact ⟨by first | rfl | (simp; done) | (simp [*]; done), by repeat (first | exact Drawn0.refl _ | apply Drawn0.step)⟩

/-! The number of bytes, the lowest one first. -/
def leN : List Int → Int
  | [] => 0
  | x :: r => x + 256 * leN r
def ByteL (l : List Int) : Prop := ∀ x ∈ l, 0 ≤ x ∧ x ≤ 255
theorem leN_bd : ∀ (l : List Int), ByteL l → 0 ≤ leN l ∧ leN l < 256 ^ l.length
  | [], _ => by simp [leN]
  | x :: r, h => by
    have hx := h x List.mem_cons_self
    have ih := leN_bd r (fun y hy => h y (List.mem_cons_of_mem _ hy))
    rw [leN, List.length_cons, Int.pow_succ]
    omega
theorem get_or {a b : Int} (h1 : 0 ≤ a) (h2 : a < 72057594037927936) (h3 : 0 ≤ b) (h4 : b ≤ 255) : Go.bits .or .u64 (IntKind.u64.wrap (a * 256)) (IntKind.u64.wrap b) = b + 256 * a := by
  rw [IntKind.wrap_u64, IntKind.wrap_u64, Int.emod_eq_of_lt (by omega) (by omega), Int.emod_eq_of_lt (by omega) (by omega)]
  have hor : Go.bits .or .u64 (a * 256) b = (((a * 256).toNat ||| b.toNat : Nat) : Int) := by
    simp only [Go.bits, BitVec.toNat_or]
    rw [show IntKind.u64.bits = 64 from rfl, Hand.ofInt64, Hand.ofInt64, Int.emod_eq_of_lt (by omega) (by omega), Int.emod_eq_of_lt (by omega) (by omega)]
    have := Nat.or_lt_two_pow (n := 64) (x := (a * 256).toNat) (y := b.toNat) (by omega) (by omega)
    rw [IntKind.wrap_u64]; omega
  have := Nat.two_pow_add_eq_or_of_lt (i := 8) (b := b.toNat) (by omega) a.toNat
  rw [hor, show (a * 256).toNat = 2 ^ 8 * a.toNat by omega, ← this]
  omega
theorem pow256_le {m : Nat} (h : m ≤ 7) : (256 : Int) ^ m ≤ 72057594037927936 := by
  have h2 : ∀ i : Fin 8, (256 : Int) ^ i.val ≤ 72057594037927936 := by decide
  exact h2 ⟨m, by omega⟩
theorem get_le_from (l : List Int) (hb : ByteL l) (hl : l.length ≤ 8) : ∀ (d i : Nat), i + d = l.length → wide_Get.l0 (d + 1) l true (leN (l.drop (l.length - i))) (l.length : Int) (i : Int) = some (leN l)
  | 0, i, h => by
    rw [wide_Get.l0, if_neg (by omega), show l.length - i = 0 by omega, List.drop_zero]
  | d + 1, i, h => by
    have hj : wrap64 (wrap64 ((l.length : Int) - 1) - (i : Int)) = ((l.length - i - 1 : Nat) : Int) := by rw [Hand.w64 (n := (l.length : Int) - 1) (by omega) (by omega), Hand.w64 (by omega) (by omega)]; omega
    have hlt : l.length - i - 1 < l.length := by omega
    have hd : l.drop (l.length - i - 1) = l[l.length - i - 1] :: l.drop (l.length - i) := by
      rw [List.drop_eq_getElem_cons hlt, show l.length - i - 1 + 1 = l.length - i by omega]
    have hx := hb _ (List.getElem_mem hlt)
    have hbd := leN_bd (l.drop (l.length - i)) (fun y hy => hb y (List.mem_of_mem_drop hy))
    have hp := pow256_le (m := (l.drop (l.length - i)).length) (by rw [List.length_drop]; omega)
    rw [wide_Get.l0, if_pos (by omega), if_pos rfl, hj, if_pos (by omega), if_pos (by omega), Hand.rd_at hlt, get_or hbd.1 (by omega) hx.1 hx.2,
      show wrap64 ((i : Int) + 1) = ((i + 1 : Nat) : Int) by rw [Hand.w64 (by omega) (by omega)]; rfl]
    have ih := get_le_from l hb hl d (i + 1) (by omega)
    rw [show l.length - (i + 1) = l.length - i - 1 by omega, hd, leN] at ih
    exact ih
theorem get_le (l : List Int) (hb : ByteL l) (hl : l.length ≤ 8) : wide_Get.f (l.length + 1) l true = some (leN l) := by
  have := get_le_from l hb hl l.length 0 (by omega)
  rw [Nat.sub_zero, List.drop_length] at this
  exact this
theorem get_le.calls (A : Option Addr) (c m : Nat) (l : List Int) (w : World) (hr : Kd.C (Kd.int .u8) w A m l) (hc : m ≤ c) (hb : ByteL l) (hl : m ≤ 8) :
    Calls Tryd.prog 38 #[.slice A m c, .bool true] w fun e w' => e = .returned (.int .u64 (leN l)) ∧ Drawn0 w w' := by
  have hlen : l.length = m := hr.1
  subst hlen
  exact wide_Get.calls _ A c l true _ w hr hc (get_le l hb hl)

/-! ### bits_Len64: function 63 -/
-- EXT HIDDEN

/-! ### key_turn_uint32: function 53 -/
-- EXT rounds=0 making=0
set_option maxRecDepth 100000 in
set_option maxHeartbeats 4000000 in
theorem len64_u32 (w : World) : Calls Tryd.prog 63 #[.int .u64 4294967295] w fun e w' => e = .returned (.int .i64 32) ∧ w' = w := by
  go_enter Tryd.func63, Tryd.ntmps63
  go_wp2
  go_ret
  refine ⟨congrArg (fun z => Ending.returned (Value.int .i64 z)) ?_, rfl⟩
  kernel_rfl
set_option maxRecDepth 100000 in
set_option maxHeartbeats 4000000 in
theorem len64_u64 (w : World) : Calls Tryd.prog 63 #[.int .u64 18446744073709551615] w fun e w' => e = .returned (.int .i64 64) ∧ w' = w := by
  go_enter Tryd.func63, Tryd.ntmps63
  go_wp2
  go_ret
  refine ⟨congrArg (fun z => Ending.returned (Value.int .i64 z)) ?_, rfl⟩
  kernel_rfl
theorem not_u32 : IntKind.u64.wrap (Go.bits .xor .u32 IntKind.u32.max 0) = 4294967295 := by decide +kernel
theorem not_u64 : Go.bits .xor .u64 IntKind.u64.max 0 = 18446744073709551615 := by decide +kernel
theorem len64_u32' (w : World) : Calls Tryd.prog 63 #[.int .u64 (IntKind.u64.wrap (Go.bits .xor .u32 IntKind.u32.max 0))] w fun e w' => e = .returned (.int .i64 32) ∧ w' = w := by rw [not_u32]; exact len64_u32 w
theorem len64_u64' (w : World) : Calls Tryd.prog 63 #[.int .u64 (Go.bits .xor .u64 IntKind.u64.max 0)] w fun e w' => e = .returned (.int .i64 64) ∧ w' = w := by rw [not_u64]; exact len64_u64 w
theorem turn32.calls (v n r : Int) (w : World) (hn : n = 16 ∨ n = 12 ∨ n = 8 ∨ n = 7) (h0 : 0 ≤ v) (h1 : v < 4294967296) (hr : Hand.rot32 n.toNat v = r) :
    Calls Tryd.prog 53 #[.int .u32 v, .int .i64 n] w fun e w' => e = .returned (.int .u32 r) ∧ Drawn0 w w' := by
  subst hr
  rcases hn with rfl | rfl | rfl | rfl
  · have hv : Go.bits .or .u32 (v * 65536 % 4294967296) (v / 65536) = Hand.rot32 (16 : Int).toNat v := Hand.or_u32 (by omega) (by omega) (by omega) (by omega)
    have HV := Aside0.mk hv
    clear hv
    go_enter Tryd.func53, Tryd.ntmps53
    go_wp2_with (go_at_call 63; (first | (with_reducible refine (len64_u32' _).mono ?_) | (with_reducible refine (len64_u32 _).mono ?_)); rintro e w' ⟨rfl, rfl⟩)
    go_quiet (fail)
    go_wp2
    go_ret
    exact ⟨congrArg (fun z => Ending.returned (Value.int .u32 z)) HV.out, by repeat (first | exact Drawn0.refl _ | apply Drawn0.step)⟩
  · have hv : Go.bits .or .u32 (v * 4096 % 4294967296) (v / 1048576) = Hand.rot32 (12 : Int).toNat v := Hand.or_u32 (by omega) (by omega) (by omega) (by omega)
    have HV := Aside0.mk hv
    clear hv
    go_enter Tryd.func53, Tryd.ntmps53
    go_wp2_with (go_at_call 63; (first | (with_reducible refine (len64_u32' _).mono ?_) | (with_reducible refine (len64_u32 _).mono ?_)); rintro e w' ⟨rfl, rfl⟩)
    go_quiet (fail)
    go_wp2
    go_ret
    exact ⟨congrArg (fun z => Ending.returned (Value.int .u32 z)) HV.out, by repeat (first | exact Drawn0.refl _ | apply Drawn0.step)⟩
  · have hv : Go.bits .or .u32 (v * 256 % 4294967296) (v / 16777216) = Hand.rot32 (8 : Int).toNat v := Hand.or_u32 (by omega) (by omega) (by omega) (by omega)
    have HV := Aside0.mk hv
    clear hv
    go_enter Tryd.func53, Tryd.ntmps53
    go_wp2_with (go_at_call 63; (first | (with_reducible refine (len64_u32' _).mono ?_) | (with_reducible refine (len64_u32 _).mono ?_)); rintro e w' ⟨rfl, rfl⟩)
    go_quiet (fail)
    go_wp2
    go_ret
    exact ⟨congrArg (fun z => Ending.returned (Value.int .u32 z)) HV.out, by repeat (first | exact Drawn0.refl _ | apply Drawn0.step)⟩
  · have hv : Go.bits .or .u32 (v * 128 % 4294967296) (v / 33554432) = Hand.rot32 (7 : Int).toNat v := Hand.or_u32 (by omega) (by omega) (by omega) (by omega)
    have HV := Aside0.mk hv
    clear hv
    go_enter Tryd.func53, Tryd.ntmps53
    go_wp2_with (go_at_call 63; (first | (with_reducible refine (len64_u32' _).mono ?_) | (with_reducible refine (len64_u32 _).mono ?_)); rintro e w' ⟨rfl, rfl⟩)
    go_quiet (fail)
    go_wp2
    go_ret
    exact ⟨congrArg (fun z => Ending.returned (Value.int .u32 z)) HV.out, by repeat (first | exact Drawn0.refl _ | apply Drawn0.step)⟩
def key_turn_uint32.f (a0 : Int) (a1 : Int) : Option Int := if (0 ≤ a0 ∧ a0 < 4294967296) ∧ (a1 = 16 ∨ a1 = 12 ∨ a1 = 8 ∨ a1 = 7) then some (Hand.rot32 a1.toNat a0) else none
theorem key_turn_uint32.calls (a0 : Int) (a1 : Int) (r : Int) (w : World) (h : key_turn_uint32.f a0 a1 = some r) :
    Calls Tryd.prog 53 #[.int .u32 a0, .int .i64 a1] w fun e w' => e = .returned (.int .u32 r) ∧ Drawn0 w w' := by
  unfold key_turn_uint32.f at h
  by_cases c : (0 ≤ a0 ∧ a0 < 4294967296) ∧ (a1 = 16 ∨ a1 = 12 ∨ a1 = 8 ∨ a1 = 7)
  · rw [if_pos c] at h
    exact turn32.calls a0 a1 r w c.2 c.1.1 c.1.2 (Option.some.inj h)
  · rw [if_neg c] at h; cases h

/-! ### key_quarter: function 39 -/
-- EXT HIDDEN
/-- Sixteen numbers in a block of their own. -/
def Sixteen (w W : World) (g : Nat) (xs : List Int) : Prop := W.heap[g]? = some (.cells (nums .u32 xs).toArray 68 (0, 0)) ∧ Below g w W ∧ KeepBut w W g none
theorem Sixteen.refl {w : World} {g : Nat} {xs : List Int} (h : w.heap[g]? = some (.cells (nums .u32 xs).toArray 68 (0, 0))) : Sixteen w w g xs := ⟨h, Below.refl _ _, KeepBut.refl _ _ _⟩
theorem Sixteen.drewN {w W : World} {g : Nat} {xs : List Int} (h : Sixteen w W g xs) (n : Nat) : Sixteen w (W.drewN n) g xs := ⟨h.1, pw_below_drewN h.2.1 n, keep_drewN h.2.2 n⟩
theorem Sixteen.drew {w W : World} {g : Nat} {xs : List Int} (h : Sixteen w W g xs) : Sixteen w W.drew g xs := ⟨h.1, below_drew h.2.1, keep_drew h.2.2⟩
theorem Sixteen.set {w W : World} {g : Nat} {xs : List Int} (h : Sixteen w W g xs) (i : Nat) (x : Int) : Sixteen w (W.setCell ⟨g, i, none⟩ (.int .u32 x)) g (xs.set i x) := by
  refine ⟨?_, h.2.1.setCell (p := ⟨g, i, none⟩) (Nat.le_refl _) _, h.2.2.set_ _ _⟩
  rw [blk_set h.1]
  congr 2
  simp [nums, List.map_set]
theorem Sixteen.cell {w W : World} {g : Nat} {xs : List Int} (h : Sixteen w W g xs) (i : Nat) (hi : i < xs.length) : W.cell? ⟨g, i, none⟩ = some (.int .u32 (xs.getD i 0)) := by
  rw [blk_cell h.1]
  simp [nums, hi]
theorem Sixteen.at_ {w W : World} {g : Nat} {xs : List Int} (h : Sixteen w W g xs) (i : Nat) (hi : i < xs.length) {v : Int} (hv : xs.getD i 0 = v) : W.cell? ⟨g, i, none⟩ = some (.int .u32 v) := by rw [← hv]; exact h.cell i hi
theorem Sixteen.fz {w W : World} {g : Nat} {xs : List Int} (h : Sixteen w W g xs) (i : Nat) : W.frozen? ⟨g, i, none⟩ = false := blk_frozen h.1 i
theorem Sixteen.trans {w W W1 : World} {g : Nat} {xs ys : List Int} (h : Sixteen w W g xs) (k : Sixteen W W1 g ys) : Sixteen w W1 g ys := ⟨k.1, h.2.1.trans k.2.1, h.2.2.trans k.2.2 (.inl rfl)⟩
theorem key_turn_uint32.is (n : Int) {x : Int} (h : Hand.W32 x) (hn : n = 16 ∨ n = 12 ∨ n = 8 ∨ n = 7) : key_turn_uint32.f x n = some (Hand.rot32 n.toNat x) := by
  unfold key_turn_uint32.f; exact if_pos ⟨h, hn⟩
theorem add_u32 (x y : Int) : IntKind.u32.wrap (x + y) = Hand.q1 x y := by rw [IntKind.wrap_u32]; rfl
theorem xor_u32w {x y : Int} (hx : Hand.W32 x) (hy : Hand.W32 y) : Go.bits .xor .u32 x y = Hand.xr x y := Hand.xor_u32 hx.1 hx.2 hy.1 hy.2
theorem xr_w32 {x y : Int} (hx : Hand.W32 x) (hy : Hand.W32 y) : Hand.W32 (Hand.xr x y) := Hand.xr32 hx.1 hx.2 hy.1 hy.2
set_option maxHeartbeats 8000000 in
set_option maxRecDepth 100000 in
theorem key_quarter.at_ (g i j m n : Nat) (xs : List Int) (w W : World) (hi : i < 16) (hj : j < 16) (hm : m < 16) (hn : n < 16) (hne : (i ≠ j ∧ i ≠ m ∧ i ≠ n) ∧ (j ≠ m ∧ j ≠ n) ∧ m ≠ n) (hg : Sixteen w W g xs) (hs : Hand.Words xs) :
    Calls Tryd.prog 39 #[.pointer (some ⟨g, 0, none⟩), .int .i64 i, .int .i64 j, .int .i64 m, .int .i64 n] W fun e w' => e = .returned (.tuple #[]) ∧ Sixteen w w' g (Hand.qr xs i j m n) := by
  have HG := Aside0.mk hg
  have hl := hs.1
  obtain ⟨⟨n1, n2, n3⟩, ⟨n4, n5⟩, n6⟩ := hne
  have m1 := n1.symm
  have m2 := n2.symm
  have m3 := n3.symm
  have m4 := n4.symm
  have m5 := n5.symm
  have m6 := n6.symm
  have hi2 : (i : Int) < 16 := by omega
  have hj2 : (j : Int) < 16 := by omega
  have hm2 : (m : Int) < 16 := by omega
  have hn2 : (n : Int) < 16 := by omega
  have hi3 : (0 : Int) ≤ (i : Int) := by omega
  have hj3 : (0 : Int) ≤ (j : Int) := by omega
  have hm3 : (0 : Int) ≤ (m : Int) := by omega
  have hn3 : (0 : Int) ≤ (n : Int) := by omega
  obtain ⟨zz, hz⟩ : ∃ z, Hand.qr xs i j m n = z := ⟨_, rfl⟩
  rw [hz]
  simp only [Hand.qr] at hz
  have ha := hs.at_ (i := i) (by assumption)
  have Ka : Aside0 (xs.getD i 0 = xs.getD i 0) := ⟨rfl⟩
  obtain ⟨a, ea⟩ : ∃ z, xs.getD i 0 = z := ⟨_, rfl⟩
  have Qa := Aside0.mk ea
  rw [ea] at ha
  simp only [ea] at hz
  clear ea Ka
  have hb := hs.at_ (i := j) (by assumption)
  have Kb : Aside0 (xs.getD j 0 = xs.getD j 0) := ⟨rfl⟩
  obtain ⟨b, eb⟩ : ∃ z, xs.getD j 0 = z := ⟨_, rfl⟩
  have Qb := Aside0.mk eb
  rw [eb] at hb
  simp only [eb] at hz
  clear eb Kb
  have hc := hs.at_ (i := m) (by assumption)
  have Kc : Aside0 (xs.getD m 0 = xs.getD m 0) := ⟨rfl⟩
  obtain ⟨c, ec⟩ : ∃ z, xs.getD m 0 = z := ⟨_, rfl⟩
  have Qc := Aside0.mk ec
  rw [ec] at hc
  simp only [ec] at hz
  clear ec Kc
  have hd := hs.at_ (i := n) (by assumption)
  have Kd : Aside0 (xs.getD n 0 = xs.getD n 0) := ⟨rfl⟩
  obtain ⟨d, ed⟩ : ∃ z, xs.getD n 0 = z := ⟨_, rfl⟩
  have Qd := Aside0.mk ed
  rw [ed] at hd
  simp only [ed] at hz
  clear ed Kd
  have hw0 := Hand.q1_bd a b
  have E00 := add_u32 a b
  obtain ⟨x0, he0⟩ : ∃ z, Hand.q1 a b = z := ⟨_, rfl⟩
  rw [he0] at hw0 E00
  simp only [he0] at hz
  have E0 := Aside0.mk E00
  clear he0 E00
  have hq1 := xr_w32 hd hw0
  have E10 := xor_u32w hd hw0
  obtain ⟨r1, hf1⟩ : ∃ z, Hand.xr d x0 = z := ⟨_, rfl⟩
  rw [hf1] at hq1 E10
  simp only [hf1] at hz
  have E1 := Aside0.mk E10
  have hw1 : Hand.W32 (Hand.rot32 16 r1) := Hand.rot32_bd hq1.1 hq1.2
  have T10 : key_turn_uint32.f r1 16 = some (Hand.rot32 16 r1) := key_turn_uint32.is 16 hq1 (by decide)
  obtain ⟨x1, he1⟩ : ∃ z, Hand.rot32 16 r1 = z := ⟨_, rfl⟩
  rw [he1] at hw1 T10
  simp only [he1] at hz
  have T1 := Aside0.mk T10
  clear he1 hf1 E10 T10 hq1
  have hw2 := Hand.q1_bd c x1
  have E20 := add_u32 c x1
  obtain ⟨x2, he2⟩ : ∃ z, Hand.q1 c x1 = z := ⟨_, rfl⟩
  rw [he2] at hw2 E20
  simp only [he2] at hz
  have E2 := Aside0.mk E20
  clear he2 E20
  have hq3 := xr_w32 hb hw2
  have E30 := xor_u32w hb hw2
  obtain ⟨r3, hf3⟩ : ∃ z, Hand.xr b x2 = z := ⟨_, rfl⟩
  rw [hf3] at hq3 E30
  simp only [hf3] at hz
  have E3 := Aside0.mk E30
  have hw3 : Hand.W32 (Hand.rot32 12 r3) := Hand.rot32_bd hq3.1 hq3.2
  have T30 : key_turn_uint32.f r3 12 = some (Hand.rot32 12 r3) := key_turn_uint32.is 12 hq3 (by decide)
  obtain ⟨x3, he3⟩ : ∃ z, Hand.rot32 12 r3 = z := ⟨_, rfl⟩
  rw [he3] at hw3 T30
  simp only [he3] at hz
  have T3 := Aside0.mk T30
  clear he3 hf3 E30 T30 hq3
  have hw4 := Hand.q1_bd x0 x3
  have E40 := add_u32 x0 x3
  obtain ⟨x4, he4⟩ : ∃ z, Hand.q1 x0 x3 = z := ⟨_, rfl⟩
  rw [he4] at hw4 E40
  simp only [he4] at hz
  have E4 := Aside0.mk E40
  clear he4 E40
  have hq5 := xr_w32 hw1 hw4
  have E50 := xor_u32w hw1 hw4
  obtain ⟨r5, hf5⟩ : ∃ z, Hand.xr x1 x4 = z := ⟨_, rfl⟩
  rw [hf5] at hq5 E50
  simp only [hf5] at hz
  have E5 := Aside0.mk E50
  have hw5 : Hand.W32 (Hand.rot32 8 r5) := Hand.rot32_bd hq5.1 hq5.2
  have T50 : key_turn_uint32.f r5 8 = some (Hand.rot32 8 r5) := key_turn_uint32.is 8 hq5 (by decide)
  obtain ⟨x5, he5⟩ : ∃ z, Hand.rot32 8 r5 = z := ⟨_, rfl⟩
  rw [he5] at hw5 T50
  simp only [he5] at hz
  have T5 := Aside0.mk T50
  clear he5 hf5 E50 T50 hq5
  have hw6 := Hand.q1_bd x2 x5
  have E60 := add_u32 x2 x5
  obtain ⟨x6, he6⟩ : ∃ z, Hand.q1 x2 x5 = z := ⟨_, rfl⟩
  rw [he6] at hw6 E60
  simp only [he6] at hz
  have E6 := Aside0.mk E60
  clear he6 E60
  have hq7 := xr_w32 hw3 hw6
  have E70 := xor_u32w hw3 hw6
  obtain ⟨r7, hf7⟩ : ∃ z, Hand.xr x3 x6 = z := ⟨_, rfl⟩
  rw [hf7] at hq7 E70
  simp only [hf7] at hz
  have E7 := Aside0.mk E70
  have hw7 : Hand.W32 (Hand.rot32 7 r7) := Hand.rot32_bd hq7.1 hq7.2
  have T70 : key_turn_uint32.f r7 7 = some (Hand.rot32 7 r7) := key_turn_uint32.is 7 hq7 (by decide)
  obtain ⟨x7, he7⟩ : ∃ z, Hand.rot32 7 r7 = z := ⟨_, rfl⟩
  rw [he7] at hw7 T70
  simp only [he7] at hz
  have T7 := Aside0.mk T70
  clear he7 hf7 E70 T70 hq7
  have HZ := Aside0.mk hz
  clear hz hs ha hb hc hd hw0 hw1 hw2 hw3 hw4 hw5 hw6 hw7 hg
  go_enter Tryd.func39, Tryd.ntmps39
  go_upto_region 0 with (fail)
  go_cut [0] from 6 (fun s0 wx => s0 = .pointer (some ⟨g, 0, none⟩) ∧ Sixteen w wx g (xs.set i x0))
  case first =>
    have k0 := HG.out.at_ i (by simp [hl, *]) (v := a) (by first | (simp [List.getD_eq_getElem?_getD, List.getElem?_set, hl, n1, n2, n3, n4, n5, n6, m1, m2, m3, m4, m5, m6, hi, hj, hm, hn]; done) | (have q := Qa.out; simp [List.getD_eq_getElem?_getD, List.getElem?_set, hl, n1, n2, n3, n4, n5, n6, m1, m2, m3, m4, m5, m6, hi, hj, hm, hn] at q ⊢; exact q))
    have k1 := HG.out.at_ j (by simp [hl, *]) (v := b) (by first | (simp [List.getD_eq_getElem?_getD, List.getElem?_set, hl, n1, n2, n3, n4, n5, n6, m1, m2, m3, m4, m5, m6, hi, hj, hm, hn]; done) | (have q := Qb.out; simp [List.getD_eq_getElem?_getD, List.getElem?_set, hl, n1, n2, n3, n4, n5, n6, m1, m2, m3, m4, m5, m6, hi, hj, hm, hn] at q ⊢; exact q))
    have f0 := HG.out.fz i
    have K1 := Aside0.mk k1
    have he := E0.out
    go_still_tail 13, (by kernel_rfl)
    change wpList _ _ _ _ _ (World.drew _)
    go_wp2
    all_goals go_meet
    all_goals (first
      | exact ⟨rfl, (HG.out.drewN _).set i _⟩
      | exact ⟨rfl, (HG.out.set i _).drewN _⟩
      | exact ⟨rfl, (HG.out.set i _).drew⟩
      | exact ⟨rfl, ((HG.out.drewN _).set i _).drew⟩
      | exact ⟨rfl, ((HG.out.drewN _).set i _).drewN _⟩)
  obtain ⟨rfl, hg⟩ := hcut
  clear HG
  have HG := Aside0.mk hg
  clear hg
  go_upto_region 1 with (fail)
  go_cut [0] from 6 (fun s0 wx => s0 = .pointer (some ⟨g, 0, none⟩) ∧ Sixteen w wx g ((xs.set i x0).set n x1))
  case first =>
    have k0 := HG.out.at_ n (by simp [hl, *]) (v := d) (by first | (simp [List.getD_eq_getElem?_getD, List.getElem?_set, hl, n1, n2, n3, n4, n5, n6, m1, m2, m3, m4, m5, m6, hi, hj, hm, hn]; done) | (have q := Qd.out; simp [List.getD_eq_getElem?_getD, List.getElem?_set, hl, n1, n2, n3, n4, n5, n6, m1, m2, m3, m4, m5, m6, hi, hj, hm, hn] at q ⊢; exact q))
    have k1 := HG.out.at_ i (by simp [hl, *]) (v := x0) (by first | (simp [List.getD_eq_getElem?_getD, List.getElem?_set, hl, n1, n2, n3, n4, n5, n6, m1, m2, m3, m4, m5, m6, hi, hj, hm, hn]; done) | (have q := Qa.out; simp [List.getD_eq_getElem?_getD, List.getElem?_set, hl, n1, n2, n3, n4, n5, n6, m1, m2, m3, m4, m5, m6, hi, hj, hm, hn] at q ⊢; exact q))
    have f0 := HG.out.fz n
    have K1 := Aside0.mk k1
    have he := E1.out
    go_region_law (go_simp; (go_at_call 53; (with_reducible refine (key_turn_uint32.calls r1 16 x1 _ T1.out).mono ?_); rintro e w' ⟨rfl, ⟨nd, rfl⟩⟩))
    all_goals go_wp2
    all_goals go_meet
    all_goals (first
      | exact ⟨rfl, (HG.out.drewN _).set n _⟩
      | exact ⟨rfl, (HG.out.set n _).drewN _⟩
      | exact ⟨rfl, (HG.out.set n _).drew⟩
      | exact ⟨rfl, ((HG.out.drewN _).set n _).drew⟩
      | exact ⟨rfl, ((HG.out.drewN _).set n _).drewN _⟩)
  obtain ⟨rfl, hg⟩ := hcut
  clear HG
  have HG := Aside0.mk hg
  clear hg
  go_upto_region 2 with (fail)
  go_cut [0] from 6 (fun s0 wx => s0 = .pointer (some ⟨g, 0, none⟩) ∧ Sixteen w wx g (((xs.set i x0).set n x1).set m x2))
  case first =>
    have k0 := HG.out.at_ m (by simp [hl, *]) (v := c) (by first | (simp [List.getD_eq_getElem?_getD, List.getElem?_set, hl, n1, n2, n3, n4, n5, n6, m1, m2, m3, m4, m5, m6, hi, hj, hm, hn]; done) | (have q := Qc.out; simp [List.getD_eq_getElem?_getD, List.getElem?_set, hl, n1, n2, n3, n4, n5, n6, m1, m2, m3, m4, m5, m6, hi, hj, hm, hn] at q ⊢; exact q))
    have k1 := HG.out.at_ n (by simp [hl, *]) (v := x1) (by first | (simp [List.getD_eq_getElem?_getD, List.getElem?_set, hl, n1, n2, n3, n4, n5, n6, m1, m2, m3, m4, m5, m6, hi, hj, hm, hn]; done) | (have q := Qd.out; simp [List.getD_eq_getElem?_getD, List.getElem?_set, hl, n1, n2, n3, n4, n5, n6, m1, m2, m3, m4, m5, m6, hi, hj, hm, hn] at q ⊢; exact q))
    have f0 := HG.out.fz m
    have K1 := Aside0.mk k1
    have he := E2.out
    go_still_tail 13, (by kernel_rfl)
    change wpList _ _ _ _ _ (World.drew _)
    go_wp2
    all_goals go_meet
    all_goals (first
      | exact ⟨rfl, (HG.out.drewN _).set m _⟩
      | exact ⟨rfl, (HG.out.set m _).drewN _⟩
      | exact ⟨rfl, (HG.out.set m _).drew⟩
      | exact ⟨rfl, ((HG.out.drewN _).set m _).drew⟩
      | exact ⟨rfl, ((HG.out.drewN _).set m _).drewN _⟩)
  obtain ⟨rfl, hg⟩ := hcut
  clear HG
  have HG := Aside0.mk hg
  clear hg
  go_upto_region 3 with (fail)
  go_cut [0] from 6 (fun s0 wx => s0 = .pointer (some ⟨g, 0, none⟩) ∧ Sixteen w wx g ((((xs.set i x0).set n x1).set m x2).set j x3))
  case first =>
    have k0 := HG.out.at_ j (by simp [hl, *]) (v := b) (by first | (simp [List.getD_eq_getElem?_getD, List.getElem?_set, hl, n1, n2, n3, n4, n5, n6, m1, m2, m3, m4, m5, m6, hi, hj, hm, hn]; done) | (have q := Qb.out; simp [List.getD_eq_getElem?_getD, List.getElem?_set, hl, n1, n2, n3, n4, n5, n6, m1, m2, m3, m4, m5, m6, hi, hj, hm, hn] at q ⊢; exact q))
    have k1 := HG.out.at_ m (by simp [hl, *]) (v := x2) (by first | (simp [List.getD_eq_getElem?_getD, List.getElem?_set, hl, n1, n2, n3, n4, n5, n6, m1, m2, m3, m4, m5, m6, hi, hj, hm, hn]; done) | (have q := Qc.out; simp [List.getD_eq_getElem?_getD, List.getElem?_set, hl, n1, n2, n3, n4, n5, n6, m1, m2, m3, m4, m5, m6, hi, hj, hm, hn] at q ⊢; exact q))
    have f0 := HG.out.fz j
    have K1 := Aside0.mk k1
    have he := E3.out
    go_region_law (go_simp; (go_at_call 53; (with_reducible refine (key_turn_uint32.calls r3 12 x3 _ T3.out).mono ?_); rintro e w' ⟨rfl, ⟨nd, rfl⟩⟩))
    all_goals go_wp2
    all_goals go_meet
    all_goals (first
      | exact ⟨rfl, (HG.out.drewN _).set j _⟩
      | exact ⟨rfl, (HG.out.set j _).drewN _⟩
      | exact ⟨rfl, (HG.out.set j _).drew⟩
      | exact ⟨rfl, ((HG.out.drewN _).set j _).drew⟩
      | exact ⟨rfl, ((HG.out.drewN _).set j _).drewN _⟩)
  obtain ⟨rfl, hg⟩ := hcut
  clear HG
  have HG := Aside0.mk hg
  clear hg
  go_upto_region 4 with (fail)
  go_cut [0] from 6 (fun s0 wx => s0 = .pointer (some ⟨g, 0, none⟩) ∧ Sixteen w wx g (((((xs.set i x0).set n x1).set m x2).set j x3).set i x4))
  case first =>
    have k0 := HG.out.at_ i (by simp [hl, *]) (v := x0) (by first | (simp [List.getD_eq_getElem?_getD, List.getElem?_set, hl, n1, n2, n3, n4, n5, n6, m1, m2, m3, m4, m5, m6, hi, hj, hm, hn]; done) | (have q := Qa.out; simp [List.getD_eq_getElem?_getD, List.getElem?_set, hl, n1, n2, n3, n4, n5, n6, m1, m2, m3, m4, m5, m6, hi, hj, hm, hn] at q ⊢; exact q))
    have k1 := HG.out.at_ j (by simp [hl, *]) (v := x3) (by first | (simp [List.getD_eq_getElem?_getD, List.getElem?_set, hl, n1, n2, n3, n4, n5, n6, m1, m2, m3, m4, m5, m6, hi, hj, hm, hn]; done) | (have q := Qb.out; simp [List.getD_eq_getElem?_getD, List.getElem?_set, hl, n1, n2, n3, n4, n5, n6, m1, m2, m3, m4, m5, m6, hi, hj, hm, hn] at q ⊢; exact q))
    have f0 := HG.out.fz i
    have K1 := Aside0.mk k1
    have he := E4.out
    go_still_tail 13, (by kernel_rfl)
    change wpList _ _ _ _ _ (World.drew _)
    go_wp2
    all_goals go_meet
    all_goals (first
      | exact ⟨rfl, (HG.out.drewN _).set i _⟩
      | exact ⟨rfl, (HG.out.set i _).drewN _⟩
      | exact ⟨rfl, (HG.out.set i _).drew⟩
      | exact ⟨rfl, ((HG.out.drewN _).set i _).drew⟩
      | exact ⟨rfl, ((HG.out.drewN _).set i _).drewN _⟩)
  obtain ⟨rfl, hg⟩ := hcut
  clear HG
  have HG := Aside0.mk hg
  clear hg
  go_upto_region 5 with (fail)
  go_cut [0] from 6 (fun s0 wx => s0 = .pointer (some ⟨g, 0, none⟩) ∧ Sixteen w wx g ((((((xs.set i x0).set n x1).set m x2).set j x3).set i x4).set n x5))
  case first =>
    have k0 := HG.out.at_ n (by simp [hl, *]) (v := x1) (by first | (simp [List.getD_eq_getElem?_getD, List.getElem?_set, hl, n1, n2, n3, n4, n5, n6, m1, m2, m3, m4, m5, m6, hi, hj, hm, hn]; done) | (have q := Qd.out; simp [List.getD_eq_getElem?_getD, List.getElem?_set, hl, n1, n2, n3, n4, n5, n6, m1, m2, m3, m4, m5, m6, hi, hj, hm, hn] at q ⊢; exact q))
    have k1 := HG.out.at_ i (by simp [hl, *]) (v := x4) (by first | (simp [List.getD_eq_getElem?_getD, List.getElem?_set, hl, n1, n2, n3, n4, n5, n6, m1, m2, m3, m4, m5, m6, hi, hj, hm, hn]; done) | (have q := Qa.out; simp [List.getD_eq_getElem?_getD, List.getElem?_set, hl, n1, n2, n3, n4, n5, n6, m1, m2, m3, m4, m5, m6, hi, hj, hm, hn] at q ⊢; exact q))
    have f0 := HG.out.fz n
    have K1 := Aside0.mk k1
    have he := E5.out
    go_region_law (go_simp; (go_at_call 53; (with_reducible refine (key_turn_uint32.calls r5 8 x5 _ T5.out).mono ?_); rintro e w' ⟨rfl, ⟨nd, rfl⟩⟩))
    all_goals go_wp2
    all_goals go_meet
    all_goals (first
      | exact ⟨rfl, (HG.out.drewN _).set n _⟩
      | exact ⟨rfl, (HG.out.set n _).drewN _⟩
      | exact ⟨rfl, (HG.out.set n _).drew⟩
      | exact ⟨rfl, ((HG.out.drewN _).set n _).drew⟩
      | exact ⟨rfl, ((HG.out.drewN _).set n _).drewN _⟩)
  obtain ⟨rfl, hg⟩ := hcut
  clear HG
  have HG := Aside0.mk hg
  clear hg
  go_upto_region 6 with (fail)
  go_cut [0] from 6 (fun s0 wx => s0 = .pointer (some ⟨g, 0, none⟩) ∧ Sixteen w wx g (((((((xs.set i x0).set n x1).set m x2).set j x3).set i x4).set n x5).set m x6))
  case first =>
    have k0 := HG.out.at_ m (by simp [hl, *]) (v := x2) (by first | (simp [List.getD_eq_getElem?_getD, List.getElem?_set, hl, n1, n2, n3, n4, n5, n6, m1, m2, m3, m4, m5, m6, hi, hj, hm, hn]; done) | (have q := Qc.out; simp [List.getD_eq_getElem?_getD, List.getElem?_set, hl, n1, n2, n3, n4, n5, n6, m1, m2, m3, m4, m5, m6, hi, hj, hm, hn] at q ⊢; exact q))
    have k1 := HG.out.at_ n (by simp [hl, *]) (v := x5) (by first | (simp [List.getD_eq_getElem?_getD, List.getElem?_set, hl, n1, n2, n3, n4, n5, n6, m1, m2, m3, m4, m5, m6, hi, hj, hm, hn]; done) | (have q := Qd.out; simp [List.getD_eq_getElem?_getD, List.getElem?_set, hl, n1, n2, n3, n4, n5, n6, m1, m2, m3, m4, m5, m6, hi, hj, hm, hn] at q ⊢; exact q))
    have f0 := HG.out.fz m
    have K1 := Aside0.mk k1
    have he := E6.out
    go_still_tail 13, (by kernel_rfl)
    change wpList _ _ _ _ _ (World.drew _)
    go_wp2
    all_goals go_meet
    all_goals (first
      | exact ⟨rfl, (HG.out.drewN _).set m _⟩
      | exact ⟨rfl, (HG.out.set m _).drewN _⟩
      | exact ⟨rfl, (HG.out.set m _).drew⟩
      | exact ⟨rfl, ((HG.out.drewN _).set m _).drew⟩
      | exact ⟨rfl, ((HG.out.drewN _).set m _).drewN _⟩)
  obtain ⟨rfl, hg⟩ := hcut
  clear HG
  have HG := Aside0.mk hg
  clear hg
  go_upto_region 7 with (fail)
  have k0 := HG.out.at_ j (by simp [hl, *]) (v := x3) (by first | (simp [List.getD_eq_getElem?_getD, List.getElem?_set, hl, n1, n2, n3, n4, n5, n6, m1, m2, m3, m4, m5, m6, hi, hj, hm, hn]; done) | (have q := Qb.out; simp [List.getD_eq_getElem?_getD, List.getElem?_set, hl, n1, n2, n3, n4, n5, n6, m1, m2, m3, m4, m5, m6, hi, hj, hm, hn] at q ⊢; exact q))
  have k1 := HG.out.at_ m (by simp [hl, *]) (v := x6) (by first | (simp [List.getD_eq_getElem?_getD, List.getElem?_set, hl, n1, n2, n3, n4, n5, n6, m1, m2, m3, m4, m5, m6, hi, hj, hm, hn]; done) | (have q := Qc.out; simp [List.getD_eq_getElem?_getD, List.getElem?_set, hl, n1, n2, n3, n4, n5, n6, m1, m2, m3, m4, m5, m6, hi, hj, hm, hn] at q ⊢; exact q))
  have f0 := HG.out.fz j
  have K1 := Aside0.mk k1
  have he := E7.out
  go_region_law (go_simp; (go_at_call 53; (with_reducible refine (key_turn_uint32.calls r7 7 x7 _ T7.out).mono ?_); rintro e w' ⟨rfl, ⟨nd, rfl⟩⟩))
  all_goals go_wp2
  all_goals go_end0
  all_goals (first
    | exact ⟨rfl, by rw [← HZ.out]; exact (HG.out.drewN _).set j _⟩
    | exact ⟨rfl, by rw [← HZ.out]; exact (HG.out.set j _).drewN _⟩
    | exact ⟨rfl, by rw [← HZ.out]; exact (HG.out.set j _).drew⟩
    | exact ⟨rfl, by rw [← HZ.out]; exact ((HG.out.drewN _).set j _).drew⟩
    | exact ⟨rfl, by rw [← HZ.out]; exact ((HG.out.drewN _).set j _).drewN _⟩)

/-! ### wide_Put: function 40 -/
def wide_Put.l0 : Nat → List Int → Int → Int → Bool → Int → Int → Option (List Int)
  | 0, _, _, _, _, _, _ => none
  | k + 1, x0, x1, x2, x3, x11, x12 => if x12 < x11 then (if x3 = true then (if 0 ≤ (wrap64 (8 * x12)) then (if x0.length < 140737488355328 then (wide_Put.l0 k (x0 ++ [(shr .u64 x1 (wrap64 (8 * x12))) % 256]) x1 x2 x3 x11 (wrap64 (x12 + 1))) else (none)) else (none)) else (if 0 ≤ (wrap64 (8 * (wrap64 ((wrap64 (x2 - 1)) - x12)))) then (if x0.length < 140737488355328 then (wide_Put.l0 k (x0 ++ [(shr .u64 x1 (wrap64 (8 * (wrap64 ((wrap64 (x2 - 1)) - x12))))) % 256]) x1 x2 x3 x11 (wrap64 (x12 + 1))) else (none)) else (none))) else (some x0)
def wide_Put.f (k : Nat) (l0 : List Int) (a1 : Int) (a2 : Int) (a3 : Bool) : Option (List Int) := wide_Put.l0 k l0 a1 a2 a3 a2 0
theorem wide_Put.mono_l : ∀ k, (∀ y0 y1 y2 y3 y4 y5, LeO (wide_Put.l0 k y0 y1 y2 y3 y4 y5) (wide_Put.l0 (k + 1) y0 y1 y2 y3 y4 y5))
  | 0 => fun _ _ _ _ _ _ r h => by simp [wide_Put.l0] at h
  | k + 1 => by
    have ih0 := wide_Put.mono_l k
    · intro y0 y1 y2 y3 y4 y5
      unfold wide_Put.l0
      repeat' first
      | (with_reducible exact ih0 _ _ _ _ _ _)
      | (with_reducible exact LeO.refl _)
      | (with_reducible exact LeO.none _)
      | (with_reducible refine LeO.ite ?_ ?_)
      | (with_reducible refine LeO.bind ?_ (fun _ => ?_))
      | exact ih0 _ _ _ _ _ _
      | exact LeO.none _
      | refine LeO.ite ?_ ?_
      | refine LeO.bind ?_ (fun _ => ?_)
theorem wide_Put.mono : ∀ a0 a1 a2 a3 k, LeO (wide_Put.f k a0 a1 a2 a3) (wide_Put.f (k + 1) a0 a1 a2 a3) := by
  intro a0 a1 a2 a3 k
  have ih0 := wide_Put.mono_l k
  unfold wide_Put.f
  repeat' first
      | (with_reducible exact ih0 _ _ _ _ _ _)
      | (with_reducible exact LeO.refl _)
      | (with_reducible exact LeO.none _)
      | (with_reducible refine LeO.ite ?_ ?_)
      | (with_reducible refine LeO.bind ?_ (fun _ => ?_))
      | exact ih0 _ _ _ _ _ _
      | exact LeO.none _
      | refine LeO.ite ?_ ?_
      | refine LeO.bind ?_ (fun _ => ?_)
set_option maxHeartbeats 8000000 in
set_option maxRecDepth 100000 in
theorem wide_Put.calls (k : Nat) (P0_ : Nat → Prop) (u9000_ : Value) (l0 : List Int) (a1 : Int) (a2 : Int) (a3 : Bool) (r : List Int) (w0 w : World) (hB : Below w0.heap.size w0 w) (ho0 : Kd.R (Kd.int .u8) 5 w w0.heap.size P0_ u9000_ l0) (h : wide_Put.f k l0 a1 a2 a3 = some r) :
    Calls Tryd.prog 40 #[u9000_, .int .u64 a1, .int .i64 a2, .bool a3] w fun e w' => ∃ v0_ : Value, e = .returned (v0_) ∧ Kd.R (Kd.int .u8) 5 w' w0.heap.size (fun k_ => (P0_ k_ ∨ w.heap.size ≤ k_)) v0_ r ∧ Below w0.heap.size w0 w' ∧ Kept w w' (fun k_ => P0_ k_) := by
  have HO0 := Aside0.mk (show Kd.R (Kd.int .u8) 5 w w0.heap.size (fun k_ => (P0_ k_ ∨ w.heap.size ≤ k_)) u9000_ l0 from Kd.R_mono ho0 (fun k_ hk => (.inl hk)))
  have HK := Aside0.mk (Kept.refl w (fun k_ => P0_ k_))
  have HW0 := Aside0.mk hB.size
  have HB := Aside0.mk hB
  clear hB
  have H : (wide_Put.l0 k l0 a1 a2 a3 a2 0) = some r := h
  clear h
  have H' := Aside0.mk H
  clear H
  go_enter Tryd.func40, Tryd.ntmps40
  go_wp2
  go_loopg [0, 12] k (fun kq v0 v12 w' => ∃ (x0_1 : List Int) (x12_1 : Int), v12 = .int .i64 x12_1 ∧ Aside0 (wide_Put.l0 kq x0_1 a1 a2 a3 a2 x12_1 = some r) ∧ Aside0 (kq ≤ k) ∧ Aside0 (Kd.R (Kd.int .u8) 5 w' w0.heap.size (fun k_ => (P0_ k_ ∨ w.heap.size ≤ k_)) v0 x0_1) ∧ Aside0 (Kept w w' (fun k_ => P0_ k_)) ∧ Aside0 (Below w0.heap.size w0 w'))
  case atStart => exact ⟨(l0), (0), (by first | rfl | (simp; done) | (simp [*]; done)), H', ⟨Nat.le_refl _⟩, ⟨by (with_reducible repeat (first | apply Kd.R_alloc | apply Kd.R_drewN | apply Kd.R_drew)); exact HO0.out⟩, ⟨by repeat (first | (with_reducible first | exact HK.out | apply Kept.alloc | apply Kept.drewN | apply Kept.drew) | exact HK.out)⟩, ⟨by repeat (first | (with_reducible first | exact HB.out | apply below_alloc | apply pw_below_drewN | apply below_drew1) | exact HB.out)⟩⟩
  case round =>
    clear H'
    try clear p2
    try clear c4
    obtain ⟨x0_1, x12_1, rfl, HA, HK1, HO_0, HK, HB⟩ := hrel
    cases gk with
    | zero => exact absurd HA.out (by simp [wide_Put.l0])
    | succ k1 =>
      have H := HA.out
      clear HA
      simp only [wide_Put.l0] at H
      by_cases c5 : x12_1 < a2
      · rw [if_pos c5] at H
        have c5b0 : decide (x12_1 < a2) = true := decide_eq_true c5
        clear c5
        by_cases c6 : a3 = true
        · subst c6
          have H1 : (if 0 ≤ (wrap64 (8 * x12_1)) then (if x0_1.length < 140737488355328 then (wide_Put.l0 k1 (x0_1 ++ [(shr .u64 a1 (wrap64 (8 * x12_1))) % 256]) a1 a2 true a2 (wrap64 (x12_1 + 1))) else (none)) else (none)) = some r := by rw [if_pos rfl] at H; exact H
          clear H
          have H := H1
          clear H1
          obtain ⟨ji7, hji7⟩ : ∃ j_ : Int, (wrap64 (8 * x12_1)) = j_ := ⟨_, rfl⟩
          replace H : (if 0 ≤ (ji7) then (if x0_1.length < 140737488355328 then (wide_Put.l0 k1 (x0_1 ++ [(shr .u64 a1 (ji7)) % 256]) a1 a2 true a2 (wrap64 (x12_1 + 1))) else (none)) else (none)) = some r := by first | (rw [hji7] at H; exact H) | (simp only [hji7] at H ⊢; exact H)
          have hji7w : (IntKind.i64.wrap (8 * x12_1)) = ji7 := (i64_w _).trans hji7
          by_cases c8 : 0 ≤ (ji7)
          · rw [if_pos c8] at H
            have c8b0 := eq_true c8
            have c8b1 : decide (0 ≤ (ji7)) = true := decide_eq_true c8
            clear c8
            obtain ⟨ji9, hji9⟩ : ∃ j_ : Int, (shr .u64 a1 (ji7)) = j_ := ⟨_, rfl⟩
            replace H : (if x0_1.length < 140737488355328 then (wide_Put.l0 k1 (x0_1 ++ [(ji9) % 256]) a1 a2 true a2 (wrap64 (x12_1 + 1))) else (none)) = some r := by first | (rw [hji9] at H; exact H) | (simp only [hji9] at H ⊢; exact H)
            have hji9_ : (a1 / 2 ^ min (ji7).toNat 64) = ji9 := hji9
            have hji9z : (ji7) ≤ 64 → (a1 / 2 ^ (ji7).toNat) = ji9 := shr_small hji9
            by_cases c10 : x0_1.length < 140737488355328
            · rw [if_pos c10] at H
              have LMc10 := Aside0.mk c10
              clear c10
              obtain ⟨y103, hy103⟩ : ∃ y_ : List Int, y_ = (x0_1 ++ [(ji9) % 256]) := ⟨_, rfl⟩
              replace H : (wide_Put.l0 k1 y103 a1 a2 true a2 (wrap64 (x12_1 + 1))) = some r := by first | (rw [hy103]; with_reducible exact H) | (have H2_ := (Option.bind_some _ _).symm.trans H; rw [hy103]; with_reducible exact H2_) | (have H2_ := (Option.bind_some _ _).symm.trans H; with_reducible exact H2_) | with_reducible exact H | (rw [hy103]; exact H) | exact H
              have Ny103 := Aside0.mk hy103
              clear hy103
              have H' := Aside0.mk H
              clear H
              go_wp2_with (first | ((with_reducible refine gate_builtin (b := .append) (xs := #[.tmp 21, .tmp 27]) rfl ?_); at_builtin; refine Kd.R_append (Kd.int .u8) (w0 := w0) w0.heap.size rfl (.tmp 21) (.tmp 27) 27 5 (.int .u8 0) 1 rfl Tryd.underlying27 info5 rfl (by decide) (by omega) u0 x0_1 ((ji9) % 256) [.int .u8 ((ji9) % 256)] (fun k_ => (P0_ k_ ∨ w.heap.size ≤ k_)) (fun _ => False) rfl rfl ?aP (fun _ hk => hk.elim) ?aF ?aO ?aB ?aS ?aL ?_; (case aP => exact rfl); (case aB => exact (by repeat (first | (with_reducible first | exact HB.out | apply below_alloc | apply pw_below_drewN | apply below_drew1) | exact HB.out))); (case aF => exact (fun k_ hk => (.inr (Nat.le_trans (by first | exact HK.out.1 | exact (show Kept w _ (fun k_ => P0_ k_) from by repeat (first | (with_reducible first | exact HK.out | apply Kept.alloc | apply Kept.drewN | apply Kept.drew) | exact HK.out)).1) hk)))); (case aO => exact (by (with_reducible repeat (first | apply Kd.R_alloc | apply Kd.R_drewN | apply Kd.R_drew)); exact HO_0.out)); (case aS => exact (below_size (by repeat (first | (with_reducible first | exact HB.out | apply below_alloc | apply pw_below_drewN | apply below_drew1) | exact HB.out)))); (case aL => have := LMc10.out; omega); intro v104 w11 ho hb hg hat; rw [← Ny103.out] at ho; have n0_ := Aside0.mk (hb); have n1_ := Aside0.mk (Kept.of_grown (S := (fun k_ => P0_ k_)) hg (by repeat (first | (with_reducible first | exact HK.out | apply Kept.alloc | apply Kept.drewN | apply Kept.drew) | exact HK.out)) (fun k_ e_ => (HO_0.out.1 k_ e_))); have n2_ := Aside0.mk (ho); clear HB; clear HK; clear HO_0; have HB := n0_; have HK := n1_; have HO105 := n2_; clear n0_ n1_ n2_; clear ho hb hg hat))
              go_roundg k1
              case measure => have := HK1.out; omega
              case rel => exact ⟨(y103), (wrap64 (x12_1 + 1)), (by first | rfl | (simp; done) | (simp [*]; done)), H', ⟨by have := HK1.out; omega⟩, ⟨by (with_reducible repeat (first | apply Kd.R_alloc | apply Kd.R_drewN | apply Kd.R_drew)); exact HO105.out⟩, ⟨by repeat (first | (with_reducible first | exact HK.out | apply Kept.alloc | apply Kept.drewN | apply Kept.drew) | exact HK.out)⟩, ⟨by repeat (first | (with_reducible first | exact HB.out | apply below_alloc | apply pw_below_drewN | apply below_drew1) | exact HB.out)⟩⟩
            · rw [if_neg c10] at H
              exact absurd H (by simp)
          · rw [if_neg c8] at H
            exact absurd H (by simp)
        · replace c6 := Bool.eq_false_iff.mpr c6
          subst c6
          have H1 : (if 0 ≤ (wrap64 (8 * (wrap64 ((wrap64 (a2 - 1)) - x12_1)))) then (if x0_1.length < 140737488355328 then (wide_Put.l0 k1 (x0_1 ++ [(shr .u64 a1 (wrap64 (8 * (wrap64 ((wrap64 (a2 - 1)) - x12_1))))) % 256]) a1 a2 false a2 (wrap64 (x12_1 + 1))) else (none)) else (none)) = some r := by rw [if_neg (show ¬ (false = true) by decide)] at H; exact H
          clear H
          have H := H1
          clear H1
          obtain ⟨ji12, hji12⟩ : ∃ j_ : Int, (wrap64 (8 * (wrap64 ((wrap64 (a2 - 1)) - x12_1)))) = j_ := ⟨_, rfl⟩
          replace H : (if 0 ≤ (ji12) then (if x0_1.length < 140737488355328 then (wide_Put.l0 k1 (x0_1 ++ [(shr .u64 a1 (ji12)) % 256]) a1 a2 false a2 (wrap64 (x12_1 + 1))) else (none)) else (none)) = some r := by first | (rw [hji12] at H; exact H) | (simp only [hji12] at H ⊢; exact H)
          have hji12w : (IntKind.i64.wrap (8 * (wrap64 ((wrap64 (a2 - 1)) - x12_1)))) = ji12 := (i64_w _).trans hji12
          by_cases c13 : 0 ≤ (ji12)
          · rw [if_pos c13] at H
            have c13b0 := eq_true c13
            have c13b1 : decide (0 ≤ (ji12)) = true := decide_eq_true c13
            clear c13
            obtain ⟨ji14, hji14⟩ : ∃ j_ : Int, (shr .u64 a1 (ji12)) = j_ := ⟨_, rfl⟩
            replace H : (if x0_1.length < 140737488355328 then (wide_Put.l0 k1 (x0_1 ++ [(ji14) % 256]) a1 a2 false a2 (wrap64 (x12_1 + 1))) else (none)) = some r := by first | (rw [hji14] at H; exact H) | (simp only [hji14] at H ⊢; exact H)
            have hji14_ : (a1 / 2 ^ min (ji12).toNat 64) = ji14 := hji14
            have hji14z : (ji12) ≤ 64 → (a1 / 2 ^ (ji12).toNat) = ji14 := shr_small hji14
            by_cases c15 : x0_1.length < 140737488355328
            · rw [if_pos c15] at H
              have LMc15 := Aside0.mk c15
              clear c15
              obtain ⟨y106, hy106⟩ : ∃ y_ : List Int, y_ = (x0_1 ++ [(ji14) % 256]) := ⟨_, rfl⟩
              replace H : (wide_Put.l0 k1 y106 a1 a2 false a2 (wrap64 (x12_1 + 1))) = some r := by first | (rw [hy106]; with_reducible exact H) | (have H2_ := (Option.bind_some _ _).symm.trans H; rw [hy106]; with_reducible exact H2_) | (have H2_ := (Option.bind_some _ _).symm.trans H; with_reducible exact H2_) | with_reducible exact H | (rw [hy106]; exact H) | exact H
              have Ny106 := Aside0.mk hy106
              clear hy106
              have H' := Aside0.mk H
              clear H
              go_wp2_with (first | ((with_reducible refine gate_builtin (b := .append) (xs := #[.tmp 21, .tmp 27]) rfl ?_); at_builtin; refine Kd.R_append (Kd.int .u8) (w0 := w0) w0.heap.size rfl (.tmp 21) (.tmp 27) 27 5 (.int .u8 0) 1 rfl Tryd.underlying27 info5 rfl (by decide) (by omega) u0 x0_1 ((ji14) % 256) [.int .u8 ((ji14) % 256)] (fun k_ => (P0_ k_ ∨ w.heap.size ≤ k_)) (fun _ => False) rfl rfl ?aP (fun _ hk => hk.elim) ?aF ?aO ?aB ?aS ?aL ?_; (case aP => exact rfl); (case aB => exact (by repeat (first | (with_reducible first | exact HB.out | apply below_alloc | apply pw_below_drewN | apply below_drew1) | exact HB.out))); (case aF => exact (fun k_ hk => (.inr (Nat.le_trans (by first | exact HK.out.1 | exact (show Kept w _ (fun k_ => P0_ k_) from by repeat (first | (with_reducible first | exact HK.out | apply Kept.alloc | apply Kept.drewN | apply Kept.drew) | exact HK.out)).1) hk)))); (case aO => exact (by (with_reducible repeat (first | apply Kd.R_alloc | apply Kd.R_drewN | apply Kd.R_drew)); exact HO_0.out)); (case aS => exact (below_size (by repeat (first | (with_reducible first | exact HB.out | apply below_alloc | apply pw_below_drewN | apply below_drew1) | exact HB.out)))); (case aL => have := LMc15.out; omega); intro v107 w16 ho hb hg hat; rw [← Ny106.out] at ho; have n0_ := Aside0.mk (hb); have n1_ := Aside0.mk (Kept.of_grown (S := (fun k_ => P0_ k_)) hg (by repeat (first | (with_reducible first | exact HK.out | apply Kept.alloc | apply Kept.drewN | apply Kept.drew) | exact HK.out)) (fun k_ e_ => (HO_0.out.1 k_ e_))); have n2_ := Aside0.mk (ho); clear HB; clear HK; clear HO_0; have HB := n0_; have HK := n1_; have HO108 := n2_; clear n0_ n1_ n2_; clear ho hb hg hat))
              go_roundg k1
              case measure => have := HK1.out; omega
              case rel => exact ⟨(y106), (wrap64 (x12_1 + 1)), (by first | rfl | (simp; done) | (simp [*]; done)), H', ⟨by have := HK1.out; omega⟩, ⟨by (with_reducible repeat (first | apply Kd.R_alloc | apply Kd.R_drewN | apply Kd.R_drew)); exact HO108.out⟩, ⟨by repeat (first | (with_reducible first | exact HK.out | apply Kept.alloc | apply Kept.drewN | apply Kept.drew) | exact HK.out)⟩, ⟨by repeat (first | (with_reducible first | exact HB.out | apply below_alloc | apply pw_below_drewN | apply below_drew1) | exact HB.out)⟩⟩
            · rw [if_neg c15] at H
              exact absurd H (by simp)
          · rw [if_neg c13] at H
            exact absurd H (by simp)
      · rw [if_neg c5] at H
        have c5b0 : decide (x12_1 < a2) = false := decide_eq_false c5
        clear c5
        obtain rfl := Option.some.inj H
        go_wp2
        go_ret
        exact ⟨_, by first | rfl | (simp [errW_none, errW_some] <;> rfl) | (simp [*, errW_none, errW_some] <;> rfl), by (with_reducible repeat (first | apply Kd.R_alloc | apply Kd.R_drewN | apply Kd.R_drew)); exact HO_0.out, by repeat (first | (with_reducible first | exact HB.out | apply below_alloc | apply pw_below_drewN | apply below_drew1) | exact HB.out), by repeat (first | (with_reducible first | exact HK.out | apply Kept.alloc | apply Kept.drewN | apply Kept.drew) | exact HK.out)⟩

/-- Bytes of a number, low first. -/
def lowN : Nat → Int → List Int
  | 0, _ => []
  | n + 1, v => v % 256 :: lowN n (v / 256)
theorem lowN_length : ∀ (n : Nat) (v : Int), (lowN n v).length = n
  | 0, _ => rfl
  | n + 1, v => by rw [lowN, List.length_cons, lowN_length n]
theorem pow_low (i : Nat) : (2 : Int) ^ (8 * i) = 256 ^ i := by rw [Int.pow_mul]; rfl
theorem put_low_from (v : Int) (n : Nat) (hn : n ≤ 8) : ∀ (m i : Nat) (xs : List Int), i + m = n → xs.length ≤ 1000000 + i → wide_Put.l0 (m + 1) xs v (n : Int) true (n : Int) (i : Int) = some (xs ++ lowN m (v / 256 ^ i))
  | 0, i, xs, h, hl => by
    rw [wide_Put.l0, if_neg (by omega), lowN, List.append_nil]
  | m + 1, i, xs, h, hl => by
    have e : wrap64 (8 * (i : Int)) = ((8 * i : Nat) : Int) := by rw [Hand.w64 (by omega) (by omega)]; omega
    rw [wide_Put.l0, if_pos (by omega), if_pos rfl, e, if_pos (by omega), if_pos (by omega), Hand.shr_eq (by have : IntKind.u64.bits = 64 := rfl; omega), pow_low,
      show wrap64 ((i : Int) + 1) = ((i + 1 : Nat) : Int) by rw [Hand.w64 (by omega) (by omega)]; rfl, put_low_from v n hn m (i + 1) _ (by omega) (by rw [List.length_append, List.length_singleton]; omega), lowN, List.append_assoc]
    rw [Int.pow_succ, Int.ediv_ediv_of_nonneg (Int.pow_nonneg (by decide)), List.singleton_append]
theorem put_low (xs : List Int) (v : Int) (n : Nat) (hn : n ≤ 8) (hl : xs.length ≤ 1000000) : wide_Put.f (n + 1) xs v (n : Int) true = some (xs ++ lowN n v) := by
  unfold wide_Put.f
  have := put_low_from v n hn n 0 xs (by omega) (by omega)
  rw [Int.pow_zero, Int.ediv_one] at this
  exact this
theorem putL4.calls {w0 W : World} {u : Value} {xs : List Int} (v : Int) (hl : xs.length ≤ 1000000) (ho : Kd.R (Kd.int .u8) 5 W w0.heap.size (fun _ => True) u xs) (hb : Below w0.heap.size w0 W) :
    Calls Tryd.prog 40 #[u, .int .u64 v, .int .i64 4, .bool true] W fun e w' => ∃ v0_ : Value, e = .returned v0_ ∧ Kd.R (Kd.int .u8) 5 w' w0.heap.size (fun _ => True) v0_ (xs ++ lowN 4 v) ∧ Below w0.heap.size w0 w' :=
  (wide_Put.calls 5 (fun _ => True) u xs v 4 true _ w0 W hb ho (put_low xs v 4 (by decide) hl)).mono fun e w' ⟨v0, he, ho, hb, _⟩ => ⟨v0, he, Kd.R_mono ho (fun _ _ => trivial), hb⟩
theorem putL8.calls {w0 W : World} {u : Value} {xs : List Int} (v : Int) (hl : xs.length ≤ 1000000) (ho : Kd.R (Kd.int .u8) 5 W w0.heap.size (fun _ => True) u xs) (hb : Below w0.heap.size w0 W) :
    Calls Tryd.prog 40 #[u, .int .u64 v, .int .i64 8, .bool true] W fun e w' => ∃ v0_ : Value, e = .returned v0_ ∧ Kd.R (Kd.int .u8) 5 w' w0.heap.size (fun _ => True) v0_ (xs ++ lowN 8 v) ∧ Below w0.heap.size w0 w' :=
  (wide_Put.calls 9 (fun _ => True) u xs v 8 true _ w0 W hb ho (put_low xs v 8 (by decide) hl)).mono fun e w' ⟨v0, he, ho, hb, _⟩ => ⟨v0, he, Kd.R_mono ho (fun _ _ => trivial), hb⟩

end Go.Proofs.YtbdakgkjomanlaaDoor.D
