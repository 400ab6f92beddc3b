/- Laid by a program of this repo over the translation: each Go function as a plain Lean function with the proof that the call comes to its answers, or a statement's row out of these; conditions: the hypotheses of each theorem. -/
import Derived.Test.YtbdakgkjomanlaaDoorDx0
import Derived.Test.YtbdakgkjomanlaaDoorDx1
import Derived.Test.YtbdakgkjomanlaaDoorDx2
namespace Go.Proofs.YtbdakgkjomanlaaDoor.D
open Go.RowKit Go.Proofs.YtbdakgkjomanlaaDoorW.PrintWords Go.Proofs.YtbdakgkjomanlaaDoorW.PrintLast Go.Proofs.YtbdakgkjomanlaaDoorW.PrintMore
attribute [local go_sem] max2_int min2_int max_two min_two max_three min_three max_four min_four   -- for this text's walks alone
set_option linter.unusedVariables false
set_option linter.unusedSimpArgs false

/-! ### key_mixer_round: function 42 -/
-- EXT HIDDEN
/-- Four numbers in a block of their own. -/
def Four (T : TypeId) (W : World) (g : Nat) (a b c d : Int) : Prop := W.heap[g]? = some (.cells #[.int .u64 a, .int .u64 b, .int .u64 c, .int .u64 d] T (0, 0))
def FourAt (T : TypeId) (w W : World) (g : Nat) (a b c d : Int) : Prop := Four T W g a b c d ∧ Below g w W ∧ KeepBut w W g none
theorem FourAt.drewN {T : TypeId} {w W : World} {g : Nat} {a b c d : Int} (h : FourAt T w W g a b c d) (n : Nat) : FourAt T w (W.drewN n) g a b c d := ⟨h.1, pw_below_drewN h.2.1 n, keep_drewN h.2.2 n⟩
theorem FourAt.drew {T : TypeId} {w W : World} {g : Nat} {a b c d : Int} (h : FourAt T w W g a b c d) : FourAt T w W.drew g a b c d := ⟨h.1, below_drew h.2.1, keep_drew h.2.2⟩
theorem FourAt.set0 {T : TypeId} {w W : World} {g : Nat} {a b c d : Int} (h : FourAt T w W g a b c d) (x : Int) : FourAt T w (W.setCell ⟨g, 0, none⟩ (.int .u64 x)) g x b c d := ⟨blk_set h.1 0 _, h.2.1.setCell (p := ⟨g, 0, none⟩) (Nat.le_refl _) _, h.2.2.set_ _ _⟩
theorem FourAt.set1 {T : TypeId} {w W : World} {g : Nat} {a b c d : Int} (h : FourAt T w W g a b c d) (x : Int) : FourAt T w (W.setCell ⟨g, 1, none⟩ (.int .u64 x)) g a x c d := ⟨blk_set h.1 1 _, h.2.1.setCell (p := ⟨g, 1, none⟩) (Nat.le_refl _) _, h.2.2.set_ _ _⟩
theorem FourAt.set2 {T : TypeId} {w W : World} {g : Nat} {a b c d : Int} (h : FourAt T w W g a b c d) (x : Int) : FourAt T w (W.setCell ⟨g, 2, none⟩ (.int .u64 x)) g a b x d := ⟨blk_set h.1 2 _, h.2.1.setCell (p := ⟨g, 2, none⟩) (Nat.le_refl _) _, h.2.2.set_ _ _⟩
theorem FourAt.set3 {T : TypeId} {w W : World} {g : Nat} {a b c d : Int} (h : FourAt T w W g a b c d) (x : Int) : FourAt T w (W.setCell ⟨g, 3, none⟩ (.int .u64 x)) g a b c x := ⟨blk_set h.1 3 _, h.2.1.setCell (p := ⟨g, 3, none⟩) (Nat.le_refl _) _, h.2.2.set_ _ _⟩
theorem Four.c0 {T : TypeId} {W : World} {g : Nat} {a b c d : Int} (h : Four T W g a b c d) : W.cell? ⟨g, 0, none⟩ = some (.int .u64 a) := (blk_cell h 0).trans rfl
theorem Four.c1 {T : TypeId} {W : World} {g : Nat} {a b c d : Int} (h : Four T W g a b c d) : W.cell? ⟨g, 1, none⟩ = some (.int .u64 b) := (blk_cell h 1).trans rfl
theorem Four.c2 {T : TypeId} {W : World} {g : Nat} {a b c d : Int} (h : Four T W g a b c d) : W.cell? ⟨g, 2, none⟩ = some (.int .u64 c) := (blk_cell h 2).trans rfl
theorem Four.c3 {T : TypeId} {W : World} {g : Nat} {a b c d : Int} (h : Four T W g a b c d) : W.cell? ⟨g, 3, none⟩ = some (.int .u64 d) := (blk_cell h 3).trans rfl
theorem Four.fz {T : TypeId} {W : World} {g : Nat} {a b c d : Int} (h : Four T W g a b c d) (i : Nat) : W.frozen? ⟨g, i, none⟩ = false := blk_frozen h i
/-- What a round makes of four numbers. -/
def sipR (s : Int × Int × Int × Int) : Int × Int × Int × Int :=
  let a1 := (s.1 + s.2.1) % 18446744073709551616
  let b1 := Hand.xr (Hand.rot64 13 s.2.1) a1
  let a2 := Hand.rot64 32 a1
  let c1 := (s.2.2.1 + s.2.2.2) % 18446744073709551616
  let d1 := Hand.xr (Hand.rot64 16 s.2.2.2) c1
  let a3 := (a2 + d1) % 18446744073709551616
  let d2 := Hand.xr (Hand.rot64 21 d1) a3
  let c2 := (c1 + b1) % 18446744073709551616
  let b2 := Hand.xr (Hand.rot64 17 b1) c2
  let c3 := Hand.rot64 32 c2
  (a3, b2, c3, d2)
def W64 (x : Int) : Prop := 0 ≤ x ∧ x < 18446744073709551616
def Sip (s : Int × Int × Int × Int) : Prop := W64 s.1 ∧ W64 s.2.1 ∧ W64 s.2.2.1 ∧ W64 s.2.2.2
theorem add64_bd (x y : Int) : W64 ((x + y) % 18446744073709551616) := by unfold W64; omega
theorem rot64_w {n : Nat} {x : Int} (h : W64 x) : W64 (Hand.rot64 n x) := Hand.rot64_bd h.1 h.2
theorem xr64_w {x y : Int} (h : W64 x) (k : W64 y) : W64 (Hand.xr x y) := Hand.xr64 h.1 h.2 k.1 k.2
theorem sipR_bd {s : Int × Int × Int × Int} (h : Sip s) : Sip (sipR s) := by
  obtain ⟨ha, hb, hc, hd⟩ := h
  have a1 := add64_bd s.1 s.2.1
  have b1 := xr64_w (rot64_w (n := 13) hb) a1
  have c1 := add64_bd s.2.2.1 s.2.2.2
  have d1 := xr64_w (rot64_w (n := 16) hd) c1
  have a3 := add64_bd (Hand.rot64 32 ((s.1 + s.2.1) % 18446744073709551616)) (Hand.xr (Hand.rot64 16 s.2.2.2) ((s.2.2.1 + s.2.2.2) % 18446744073709551616))
  have c2 := add64_bd ((s.2.2.1 + s.2.2.2) % 18446744073709551616) (Hand.xr (Hand.rot64 13 s.2.1) ((s.1 + s.2.1) % 18446744073709551616))
  exact ⟨a3, xr64_w (rot64_w b1) c2, rot64_w c2, xr64_w (rot64_w d1) a3⟩
theorem key_turn_uint64.is (n : Int) {x : Int} (h : W64 x) (hn : n = 13 ∨ n = 32 ∨ n = 16 ∨ n = 21 ∨ n = 17) : key_turn_uint64.f x n = some (Hand.rot64 n.toNat x) := by
  unfold key_turn_uint64.f; exact if_pos ⟨h, hn⟩
set_option maxHeartbeats 8000000 in
set_option maxRecDepth 100000 in
theorem mixer_round.calls' (g : Nat) (a b c d : Int) (w : World) (hg : Four 75 w g a b c d) (hs : Sip (a, b, c, d)) :
    Calls Tryd.prog 42 #[.pointer (some ⟨g, 0, none⟩)] w fun e w' => e = .returned (.tuple #[]) ∧ FourAt 75 w w' g (sipR (a, b, c, d)).1 (sipR (a, b, c, d)).2.1 (sipR (a, b, c, d)).2.2.1 (sipR (a, b, c, d)).2.2.2 := by
  obtain ⟨⟨a', b', c', d'⟩, hz⟩ : ∃ z, sipR (a, b, c, d) = z := ⟨_, rfl⟩
  rw [hz]
  simp only [sipR, Prod.mk.injEq] at hz
  obtain ⟨hza, hzb, hzc, hzd⟩ := hz
  obtain ⟨ha, hb, hc, hd⟩ := hs
  have HG := Aside0.mk (show FourAt 75 w w g a b c d from ⟨hg, Below.refl _ _, KeepBut.refl _ _ _⟩)
  clear hg
  have hw0 := add64_bd a b
  obtain ⟨x0, he0⟩ : ∃ z, (a + b) % 18446744073709551616 = z := ⟨_, rfl⟩
  rw [he0] at hw0
  simp only [he0] at hza hzb hzc hzd
  have E0 : Aside0 (IntKind.u64.wrap (a + b) = x0) := ⟨by rw [IntKind.wrap_u64]; exact he0⟩
  clear he0
  have hr1 := rot64_w (n := 13) hb
  obtain ⟨r1, he1⟩ : ∃ z, Hand.rot64 13 b = z := ⟨_, rfl⟩
  rw [he1] at hr1
  simp only [he1] at hza hzb hzc hzd
  have T1 : Aside0 (key_turn_uint64.f b 13 = some r1) := ⟨by rw [← he1]; exact (fun h => key_turn_uint64.is 13 h (by decide)) hb⟩
  clear he1
  have hw1 := xr64_w hr1 hw0
  obtain ⟨x1, he1⟩ : ∃ z, Hand.xr r1 x0 = z := ⟨_, rfl⟩
  rw [he1] at hw1
  simp only [he1] at hza hzb hzc hzd
  have E1 : Aside0 (Go.bits .xor .u64 r1 x0 = x1) := ⟨by rw [← he1]; exact Hand.xor_u64 hr1.1 hr1.2 hw0.1 hw0.2⟩
  clear he1
  have hr2 := rot64_w (n := 32) hw0
  obtain ⟨r2, he2⟩ : ∃ z, Hand.rot64 32 x0 = z := ⟨_, rfl⟩
  rw [he2] at hr2
  simp only [he2] at hza hzb hzc hzd
  have T2 : Aside0 (key_turn_uint64.f x0 32 = some r2) := ⟨by rw [← he2]; exact (fun h => key_turn_uint64.is 32 h (by decide)) hw0⟩
  clear he2
  have hw3 := add64_bd c d
  obtain ⟨x3, he3⟩ : ∃ z, (c + d) % 18446744073709551616 = z := ⟨_, rfl⟩
  rw [he3] at hw3
  simp only [he3] at hza hzb hzc hzd
  have E3 : Aside0 (IntKind.u64.wrap (c + d) = x3) := ⟨by rw [IntKind.wrap_u64]; exact he3⟩
  clear he3
  have hr4 := rot64_w (n := 16) hd
  obtain ⟨r4, he4⟩ : ∃ z, Hand.rot64 16 d = z := ⟨_, rfl⟩
  rw [he4] at hr4
  simp only [he4] at hza hzb hzc hzd
  have T4 : Aside0 (key_turn_uint64.f d 16 = some r4) := ⟨by rw [← he4]; exact (fun h => key_turn_uint64.is 16 h (by decide)) hd⟩
  clear he4
  have hw4 := xr64_w hr4 hw3
  obtain ⟨x4, he4⟩ : ∃ z, Hand.xr r4 x3 = z := ⟨_, rfl⟩
  rw [he4] at hw4
  simp only [he4] at hza hzb hzc hzd
  have E4 : Aside0 (Go.bits .xor .u64 r4 x3 = x4) := ⟨by rw [← he4]; exact Hand.xor_u64 hr4.1 hr4.2 hw3.1 hw3.2⟩
  clear he4
  have hw5 := add64_bd r2 x4
  obtain ⟨x5, he5⟩ : ∃ z, (r2 + x4) % 18446744073709551616 = z := ⟨_, rfl⟩
  rw [he5] at hw5
  simp only [he5] at hza hzb hzc hzd
  have E5 : Aside0 (IntKind.u64.wrap (r2 + x4) = x5) := ⟨by rw [IntKind.wrap_u64]; exact he5⟩
  clear he5
  have hr6 := rot64_w (n := 21) hw4
  obtain ⟨r6, he6⟩ : ∃ z, Hand.rot64 21 x4 = z := ⟨_, rfl⟩
  rw [he6] at hr6
  simp only [he6] at hza hzb hzc hzd
  have T6 : Aside0 (key_turn_uint64.f x4 21 = some r6) := ⟨by rw [← he6]; exact (fun h => key_turn_uint64.is 21 h (by decide)) hw4⟩
  clear he6
  have hw6 := xr64_w hr6 hw5
  obtain ⟨x6, he6⟩ : ∃ z, Hand.xr r6 x5 = z := ⟨_, rfl⟩
  rw [he6] at hw6
  simp only [he6] at hza hzb hzc hzd
  have E6 : Aside0 (Go.bits .xor .u64 r6 x5 = x6) := ⟨by rw [← he6]; exact Hand.xor_u64 hr6.1 hr6.2 hw5.1 hw5.2⟩
  clear he6
  have hw7 := add64_bd x3 x1
  obtain ⟨x7, he7⟩ : ∃ z, (x3 + x1) % 18446744073709551616 = z := ⟨_, rfl⟩
  rw [he7] at hw7
  simp only [he7] at hza hzb hzc hzd
  have E7 : Aside0 (IntKind.u64.wrap (x3 + x1) = x7) := ⟨by rw [IntKind.wrap_u64]; exact he7⟩
  clear he7
  have hr8 := rot64_w (n := 17) hw1
  obtain ⟨r8, he8⟩ : ∃ z, Hand.rot64 17 x1 = z := ⟨_, rfl⟩
  rw [he8] at hr8
  simp only [he8] at hza hzb hzc hzd
  have T8 : Aside0 (key_turn_uint64.f x1 17 = some r8) := ⟨by rw [← he8]; exact (fun h => key_turn_uint64.is 17 h (by decide)) hw1⟩
  clear he8
  have hw8 := xr64_w hr8 hw7
  obtain ⟨x8, he8⟩ : ∃ z, Hand.xr r8 x7 = z := ⟨_, rfl⟩
  rw [he8] at hw8
  simp only [he8] at hza hzb hzc hzd
  have E8 : Aside0 (Go.bits .xor .u64 r8 x7 = x8) := ⟨by rw [← he8]; exact Hand.xor_u64 hr8.1 hr8.2 hw7.1 hw7.2⟩
  clear he8
  have hr9 := rot64_w (n := 32) hw7
  obtain ⟨r9, he9⟩ : ∃ z, Hand.rot64 32 x7 = z := ⟨_, rfl⟩
  rw [he9] at hr9
  simp only [he9] at hza hzb hzc hzd
  have T9 : Aside0 (key_turn_uint64.f x7 32 = some r9) := ⟨by rw [← he9]; exact (fun h => key_turn_uint64.is 32 h (by decide)) hw7⟩
  clear he9
  obtain ⟨rfl, rfl, rfl, rfl⟩ : x5 = a' ∧ x8 = b' ∧ r9 = c' ∧ x6 = d' := ⟨hza, hzb, hzc, hzd⟩
  clear hza hzb hzc hzd ha hb hc hd hw0 hw1 hw3 hw4 hw5 hw6 hw7 hw8 hr1 hr2 hr4 hr6 hr8 hr9
  go_enter Tryd.func42, Tryd.ntmps42
  go_upto_region 0 with (fail)
  go_cut [0] from 2 (fun s0 wx => s0 = .pointer (some ⟨g, 0, none⟩) ∧ FourAt 75 w wx g x0 b c d)
  case first =>
    have k0 := HG.out.1.c0
    have k1 := HG.out.1.c1
    have f0 := HG.out.1.fz 0
    have he := E0.out
    go_still_tail 11, (by kernel_rfl)
    change wpList _ _ _ _ _ (World.drew _)
    go_wp2
    go_meet
    case rel => exact ⟨rfl, (HG.out.set0 _).drew⟩
  obtain ⟨rfl, hg⟩ := hcut
  clear HG
  have HG := Aside0.mk hg
  clear hg
  go_upto_region 1 with (fail)
  go_cut [0] from 2 (fun s0 wx => s0 = .pointer (some ⟨g, 0, none⟩) ∧ FourAt 75 w wx g x0 x1 c d)
  case first =>
    have k0 := HG.out.1.c1
    have k1 := HG.out.1.c0
    have f0 := HG.out.1.fz 1
    have he := E1.out
    go_region_law (go_simp; (go_at_call 54; (with_reducible refine (key_turn_uint64.calls b 13 r1 _ T1.out).mono ?_); rintro e w' ⟨rfl, ⟨nd, rfl⟩⟩))
    all_goals go_wp2
    all_goals go_meet
    all_goals (first
      | exact ⟨rfl, (HG.out.drewN _).set1 _⟩
      | exact ⟨rfl, (HG.out.set1 _).drewN _⟩
      | exact ⟨rfl, ((HG.out.drewN _).set1 _).drew⟩
      | exact ⟨rfl, ((HG.out.drewN _).set1 _).drewN _⟩)
  obtain ⟨rfl, hg⟩ := hcut
  clear HG
  have HG := Aside0.mk hg
  clear hg
  go_upto_region 2 with (fail)
  go_cut [0] from 2 (fun s0 wx => s0 = .pointer (some ⟨g, 0, none⟩) ∧ FourAt 75 w wx g r2 x1 c d)
  case first =>
    have k0 := HG.out.1.c0
    have k1 := HG.out.1.c1
    have f0 := HG.out.1.fz 0
    go_wp2_with (go_at_call 54; (with_reducible refine (key_turn_uint64.calls x0 32 r2 _ T2.out).mono ?_); rintro e w' ⟨rfl, ⟨nd, rfl⟩⟩)
    all_goals go_meet
    all_goals (first
      | exact ⟨rfl, (HG.out.drewN _).set0 _⟩
      | exact ⟨rfl, (HG.out.set0 _).drewN _⟩
      | exact ⟨rfl, ((HG.out.drewN _).set0 _).drew⟩
      | exact ⟨rfl, ((HG.out.drewN _).set0 _).drewN _⟩)
  obtain ⟨rfl, hg⟩ := hcut
  clear HG
  have HG := Aside0.mk hg
  clear hg
  go_upto_region 3 with (fail)
  go_cut [0] from 2 (fun s0 wx => s0 = .pointer (some ⟨g, 0, none⟩) ∧ FourAt 75 w wx g r2 x1 x3 d)
  case first =>
    have k0 := HG.out.1.c2
    have k1 := HG.out.1.c3
    have f0 := HG.out.1.fz 2
    have he := E3.out
    go_still_tail 11, (by kernel_rfl)
    change wpList _ _ _ _ _ (World.drew _)
    go_wp2
    go_meet
    case rel => exact ⟨rfl, (HG.out.set2 _).drew⟩
  obtain ⟨rfl, hg⟩ := hcut
  clear HG
  have HG := Aside0.mk hg
  clear hg
  go_upto_region 4 with (fail)
  go_cut [0] from 2 (fun s0 wx => s0 = .pointer (some ⟨g, 0, none⟩) ∧ FourAt 75 w wx g r2 x1 x3 x4)
  case first =>
    have k0 := HG.out.1.c3
    have k1 := HG.out.1.c2
    have f0 := HG.out.1.fz 3
    have he := E4.out
    go_region_law (go_simp; (go_at_call 54; (with_reducible refine (key_turn_uint64.calls d 16 r4 _ T4.out).mono ?_); rintro e w' ⟨rfl, ⟨nd, rfl⟩⟩))
    all_goals go_wp2
    all_goals go_meet
    all_goals (first
      | exact ⟨rfl, (HG.out.drewN _).set3 _⟩
      | exact ⟨rfl, (HG.out.set3 _).drewN _⟩
      | exact ⟨rfl, ((HG.out.drewN _).set3 _).drew⟩
      | exact ⟨rfl, ((HG.out.drewN _).set3 _).drewN _⟩)
  obtain ⟨rfl, hg⟩ := hcut
  clear HG
  have HG := Aside0.mk hg
  clear hg
  go_upto_region 5 with (fail)
  go_cut [0] from 2 (fun s0 wx => s0 = .pointer (some ⟨g, 0, none⟩) ∧ FourAt 75 w wx g x5 x1 x3 x4)
  case first =>
    have k0 := HG.out.1.c0
    have k1 := HG.out.1.c3
    have f0 := HG.out.1.fz 0
    have he := E5.out
    go_still_tail 11, (by kernel_rfl)
    change wpList _ _ _ _ _ (World.drew _)
    go_wp2
    go_meet
    case rel => exact ⟨rfl, (HG.out.set0 _).drew⟩
  obtain ⟨rfl, hg⟩ := hcut
  clear HG
  have HG := Aside0.mk hg
  clear hg
  go_upto_region 6 with (fail)
  go_cut [0] from 2 (fun s0 wx => s0 = .pointer (some ⟨g, 0, none⟩) ∧ FourAt 75 w wx g x5 x1 x3 x6)
  case first =>
    have k0 := HG.out.1.c3
    have k1 := HG.out.1.c0
    have f0 := HG.out.1.fz 3
    have he := E6.out
    go_region_law (go_simp; (go_at_call 54; (with_reducible refine (key_turn_uint64.calls x4 21 r6 _ T6.out).mono ?_); rintro e w' ⟨rfl, ⟨nd, rfl⟩⟩))
    all_goals go_wp2
    all_goals go_meet
    all_goals (first
      | exact ⟨rfl, (HG.out.drewN _).set3 _⟩
      | exact ⟨rfl, (HG.out.set3 _).drewN _⟩
      | exact ⟨rfl, ((HG.out.drewN _).set3 _).drew⟩
      | exact ⟨rfl, ((HG.out.drewN _).set3 _).drewN _⟩)
  obtain ⟨rfl, hg⟩ := hcut
  clear HG
  have HG := Aside0.mk hg
  clear hg
  go_upto_region 7 with (fail)
  go_cut [0] from 2 (fun s0 wx => s0 = .pointer (some ⟨g, 0, none⟩) ∧ FourAt 75 w wx g x5 x1 x7 x6)
  case first =>
    have k0 := HG.out.1.c2
    have k1 := HG.out.1.c1
    have f0 := HG.out.1.fz 2
    have he := E7.out
    go_still_tail 11, (by kernel_rfl)
    change wpList _ _ _ _ _ (World.drew _)
    go_wp2
    go_meet
    case rel => exact ⟨rfl, (HG.out.set2 _).drew⟩
  obtain ⟨rfl, hg⟩ := hcut
  clear HG
  have HG := Aside0.mk hg
  clear hg
  go_upto_region 8 with (fail)
  go_cut [0] from 2 (fun s0 wx => s0 = .pointer (some ⟨g, 0, none⟩) ∧ FourAt 75 w wx g x5 x8 x7 x6)
  case first =>
    have k0 := HG.out.1.c1
    have k1 := HG.out.1.c2
    have f0 := HG.out.1.fz 1
    have he := E8.out
    go_region_law (go_simp; (go_at_call 54; (with_reducible refine (key_turn_uint64.calls x1 17 r8 _ T8.out).mono ?_); rintro e w' ⟨rfl, ⟨nd, rfl⟩⟩))
    all_goals go_wp2
    all_goals go_meet
    all_goals (first
      | exact ⟨rfl, (HG.out.drewN _).set1 _⟩
      | exact ⟨rfl, (HG.out.set1 _).drewN _⟩
      | exact ⟨rfl, ((HG.out.drewN _).set1 _).drew⟩
      | exact ⟨rfl, ((HG.out.drewN _).set1 _).drewN _⟩)
  obtain ⟨rfl, hg⟩ := hcut
  clear HG
  have HG := Aside0.mk hg
  clear hg
  go_upto_region 9 with (fail)
  have k0 := HG.out.1.c2
  have k1 := HG.out.1.c3
  have f0 := HG.out.1.fz 2
  go_wp2_with (go_at_call 54; (with_reducible refine (key_turn_uint64.calls x7 32 r9 _ T9.out).mono ?_); rintro e w' ⟨rfl, ⟨nd, rfl⟩⟩)
  all_goals go_end0
  all_goals (first
    | exact ⟨rfl, (HG.out.drewN _).set2 _⟩
    | exact ⟨rfl, (HG.out.set2 _).drewN _⟩
    | exact ⟨rfl, ((HG.out.drewN _).set2 _).drew⟩
    | exact ⟨rfl, ((HG.out.drewN _).set2 _).drewN _⟩)

/-! ### key_mixer_take: function 41 -/
-- EXT HIDDEN
/-- What taking a number makes of four numbers. -/
def sipTake (s : Int × Int × Int × Int) (v : Int) : Int × Int × Int × Int :=
  let r := sipR (sipR (s.1, s.2.1, s.2.2.1, Hand.xr s.2.2.2 v))
  (Hand.xr r.1 v, r.2.1, r.2.2.1, r.2.2.2)
theorem sipTake_bd {s : Int × Int × Int × Int} {v : Int} (h : Sip s) (hv : W64 v) : Sip (sipTake s v) := by
  have h1 := sipR_bd (sipR_bd (s := (s.1, s.2.1, s.2.2.1, Hand.xr s.2.2.2 v)) ⟨h.1, h.2.1, h.2.2.1, xr64_w h.2.2.2 hv⟩)
  exact ⟨xr64_w h1.1 hv, h1.2.1, h1.2.2.1, h1.2.2.2⟩
def FourS (T : TypeId) (w W : World) (g : Nat) (s : Int × Int × Int × Int) : Prop := FourAt T w W g s.1 s.2.1 s.2.2.1 s.2.2.2
theorem FourAt.trans {T : TypeId} {w W W1 : World} {g : Nat} {a b c d a' b' c' d' : Int} (h : FourAt T w W g a b c d) (k : FourAt T W W1 g a' b' c' d') : FourAt T w W1 g a' b' c' d' := ⟨k.1, h.2.1.trans k.2.1, h.2.2.trans k.2.2 (.inl rfl)⟩
theorem mixer_round.s (g : Nat) (s : Int × Int × Int × Int) (w W : World) (hg : FourS 75 w W g s) (hs : Sip s) :
    Calls Tryd.prog 42 #[.pointer (some ⟨g, 0, none⟩)] W fun e w' => e = .returned (.tuple #[]) ∧ FourS 75 w w' g (sipR s) :=
  (mixer_round.calls' g s.1 s.2.1 s.2.2.1 s.2.2.2 W hg.1 hs).mono fun _ _ ⟨he, h⟩ => ⟨he, hg.trans h⟩
set_option maxHeartbeats 4000000 in
theorem mixer_take.calls (g : Nat) (s : Int × Int × Int × Int) (v : Int) (w W : World) (hg : FourS 75 w W g s) (hs : Sip s) (hv : W64 v) :
    Calls Tryd.prog 41 #[.pointer (some ⟨g, 0, none⟩), .int .u64 v] W fun e w' => e = .returned (.tuple #[]) ∧ FourS 75 w w' g (sipTake s v) := by
  obtain ⟨a, b, c, d⟩ := s
  have HG := Aside0.mk hg
  obtain ⟨ha, hb, hc, hd⟩ := hs
  have hx := xr64_w hd hv
  have ex : Go.bits .xor .u64 d v = Hand.xr d v := Hand.xor_u64 hd.1 hd.2 hv.1 hv.2
  have h1 := sipR_bd (s := (a, b, c, Hand.xr d v)) ⟨ha, hb, hc, hx⟩
  have h2 := sipR_bd h1
  have ey : Go.bits .xor .u64 (sipR (sipR (a, b, c, Hand.xr d v))).1 v = Hand.xr (sipR (sipR (a, b, c, Hand.xr d v))).1 v := Hand.xor_u64 h2.1.1 h2.1.2 hv.1 hv.2
  have hr : sipTake (a, b, c, d) v = (Hand.xr (sipR (sipR (a, b, c, Hand.xr d v))).1 v, (sipR (sipR (a, b, c, Hand.xr d v))).2.1, (sipR (sipR (a, b, c, Hand.xr d v))).2.2.1, (sipR (sipR (a, b, c, Hand.xr d v))).2.2.2) := rfl
  have HR := Aside0.mk hr
  have HS0 : Aside0 (Sip (a, b, c, Hand.xr d v)) := ⟨⟨ha, hb, hc, hx⟩⟩
  obtain ⟨x, hxx⟩ : ∃ x, Hand.xr d v = x := ⟨_, rfl⟩
  rw [hxx] at ex HS0 h1 h2 ey HR hr
  obtain ⟨s1, hs1⟩ : ∃ z, sipR (a, b, c, x) = z := ⟨_, rfl⟩
  rw [hs1] at h1 h2 ey HR hr
  obtain ⟨s2, hs2⟩ : ∃ z, sipR s1 = z := ⟨_, rfl⟩
  rw [hs2] at h2 ey HR hr
  have HS1 := Aside0.mk h1
  have HE1 := Aside0.mk hs1
  have HE2 := Aside0.mk hs2
  clear hr ha hb hc hd hx hxx h1 h2 hs1 hs2 hg
  have k0 : W.cell? ⟨g, 3, none⟩ = some (.int .u64 d) := HG.out.1.c3
  have f0 : W.frozen? ⟨g, 3, none⟩ = false := HG.out.1.fz 3
  go_enter Tryd.func41, Tryd.ntmps41
  go_upto_region 1 with (fail)
  have n1 : Aside0 (FourS 75 w (W.setCell ⟨g, 3, none⟩ (.int .u64 x)) g (a, b, c, x)) := ⟨HG.out.set3 _⟩
  clear HG k0 f0 ex
  go_upto_region 2 with (go_at_call 42; (with_reducible refine (mixer_round.s g (a, b, c, x) w _ n1.out HS0.out).mono ?_); rintro e w1 ⟨rfl, hf⟩; have n2 := Aside0.mk hf; clear hf)
  go_upto_region 3 with (go_at_call 42; (with_reducible refine (mixer_round.s g _ w _ n2.out (by rw [HE1.out]; exact HS1.out)).mono ?_); rintro e w2 ⟨rfl, hf⟩; rw [HE1.out, HE2.out] at hf; have n3 := Aside0.mk hf; have k0 := n3.out.1.c0; have f0 := n3.out.1.fz 0; clear hf)
  go_wp2
  go_end0
  exact ⟨rfl, by rw [HR.out]; exact n3.out.set0 _⟩

/-! ### key_tag: function 29 -/
-- EXT rounds=0 making=1
/-- What a tag makes of its key and bytes. -/
def tagEat : Nat → (Int × Int × Int × Int) → List Int → (Int × Int × Int × Int) × List Int
  | 0, s, l => (s, l)
  | k + 1, s, l => if 8 ≤ l.length then tagEat k (sipTake s (leN (l.take 8))) (l.drop 8) else (s, l)
def tagEnd (l : List Int) (n : Int) : List Int := (l ++ List.replicate (8 - l.length) 0).set 7 (n % 256)
def tag255 (s : Int × Int × Int × Int) : Int × Int × Int × Int := (s.1, s.2.1, Hand.xr s.2.2.1 255, s.2.2.2)
def sipX (s : Int × Int × Int × Int) : Int := Hand.xr (Hand.xr (Hand.xr s.1 s.2.1) s.2.2.1) s.2.2.2
def tagStart (k l : Int) : Int × Int × Int × Int := (Hand.xr 8317987319222330741 k, Hand.xr 7237128888997146477 l, Hand.xr 7816392313619706465 k, Hand.xr 8387220255154660723 l)
def tagLast (s : Int × Int × Int × Int) : List Int := lowN 8 (sipX (sipR (sipR (sipR (sipR (tag255 s))))))
def tagOf (l0 l1 : List Int) : List Int :=
  let p := tagEat l1.length (tagStart (leN (l0.take 8)) (leN (l0.drop 8))) l1
  tagLast (sipTake p.1 (leN (tagEnd p.2 l1.length)))
def key_tag.f (l0 l1 : List Int) : Option (List Int) := if l0.length = 16 ∧ (l0.all isByteK = true ∧ l1.all isByteK = true) then some (tagOf l0 l1) else none
theorem leN_w64 {l : List Int} (h : ByteL l) (hl : l.length ≤ 8) : W64 (leN l) := by
  have hb := leN_bd l h
  refine ⟨hb.1, Int.lt_of_lt_of_le hb.2 ?_⟩
  have h8 : l.length = 0 ∨ l.length = 1 ∨ l.length = 2 ∨ l.length = 3 ∨ l.length = 4 ∨ l.length = 5 ∨ l.length = 6 ∨ l.length = 7 ∨ l.length = 8 := by omega
  rcases h8 with e | e | e | e | e | e | e | e | e <;> rw [e] <;> decide
theorem tagStart_bd {k l : Int} (hk : W64 k) (hl : W64 l) : Sip (tagStart k l) :=
  ⟨xr64_w ⟨by decide, by decide⟩ hk, xr64_w ⟨by decide, by decide⟩ hl, xr64_w ⟨by decide, by decide⟩ hk, xr64_w ⟨by decide, by decide⟩ hl⟩
theorem byteL_take {l : List Int} (h : ByteL l) (a : Nat) : ByteL (l.take a) := fun x hx => h x (List.mem_of_mem_take hx)
theorem byteL_drop {l : List Int} (h : ByteL l) (a : Nat) : ByteL (l.drop a) := fun x hx => h x (List.mem_of_mem_drop hx)
theorem tagEat_done (k : Nat) (s : Int × Int × Int × Int) (l : List Int) (h : l.length < 8) : tagEat k s l = (s, l) := by
  cases k with
  | zero => rfl
  | succ k => rw [tagEat, if_neg (by omega)]
theorem tagEat_more (k : Nat) (s : Int × Int × Int × Int) (l : List Int) (h : 8 ≤ l.length) : tagEat (k + 1) s l = tagEat k (sipTake s (leN (l.take 8))) (l.drop 8) := by rw [tagEat, if_pos h]
theorem copy_src {w : World} {A : Option Addr} {l : List Int} (h : ReadsOf (Value.int .u8) (0 : Int) w A l.length l) (h0 : 0 < l.length) : ∃ ad, A = some ad ∧ ∀ j v, (nums .u8 l)[j]? = some v → w.cell? (ad.add j) = some v := by
  obtain ⟨ad, rfl, _⟩ := h.at_ 0 (by omega) (by omega)
  refine ⟨ad, rfl, fun j v hv => ?_⟩
  have hj : j < l.length := by
    have := (List.getElem?_eq_some_iff.1 hv).1
    simpa [nums] using this
  obtain ⟨ad', e, hc⟩ := h.at_ (j : Int) (by omega) (by omega)
  cases e
  rw [Int.toNat_natCast] at hc
  rw [hc]
  simp only [nums, List.getElem?_map, List.getElem?_eq_getElem hj, Option.map_some] at hv
  rw [← hv]
  simp [rdOf, hj]
theorem tagEat_fuel : ∀ (k : Nat) (s : Int × Int × Int × Int) (l : List Int), l.length ≤ k → ∀ j, l.length ≤ j → tagEat k s l = tagEat j s l
  | 0, s, l, h, j, _ => by rw [tagEat_done 0 s l (by omega), tagEat_done j s l (by omega)]
  | k + 1, s, l, h, j, hj => by
    by_cases h8 : 8 ≤ l.length
    · obtain ⟨i, rfl⟩ : ∃ i, j = i + 1 := ⟨j - 1, by omega⟩
      rw [tagEat_more k s l h8, tagEat_more i s l h8]
      exact tagEat_fuel k _ _ (by rw [List.length_drop]; omega) i (by rw [List.length_drop]; omega)
    · rw [tagEat_done _ s l (by omega), tagEat_done _ s l (by omega)]
theorem lit_R (W : World) (base : Nat) (xs : List Int) (hb : base ≤ W.heap.size) (hl : xs.length ≤ 1000000) : Kd.R (Kd.int .u8) 5 (W.alloc (.cells (nums .u8 xs).toArray 5)) base (fun _ => True) (.slice (some ⟨W.heap.size, 0, none⟩) xs.length xs.length) xs :=
  Kd.R_of_own (h1 := fun _ => rfl) (ok := fun _ => True) (own_lit W base 5 .u8 xs hb (by omega)) (fun _ _ => trivial)
theorem blk_C {w : World} {g : Nat} {T : TypeId} {k : IntKind} {xs : List Int} (h : w.heap[g]? = some (.cells (nums k xs).toArray T (0, 0))) (hl : xs.length ≤ 9223372036854775807) : Kd.C (Kd.int k) w (some ⟨g, 0, none⟩) xs.length xs :=
  Kd.C_of_reads (enc := Value.int k) (d := (0 : Int)) (h1 := fun _ => rfl) ⟨rfl, hl, fun _ => ⟨_, rfl, fun j hj => by rw [add_plain, blk_cell h]; simp [nums, hj]⟩⟩
theorem FourS.below {T : TypeId} {w W W1 : World} {g : Nat} {s : Int × Int × Int × Int} (h : FourS T w W g s) (hb : Below W.heap.size W W1) : FourS T w W1 g s :=
  ⟨blk_below h.1 hb, h.2.1.trans (hb.mono (Nat.le_of_lt (blk_lt h.1))), h.2.2.trans (KeepBut.of_below hb g none) (.inl rfl)⟩
theorem splice_zeros (l : List Int) (h : l.length < 8) : splice (nums .u8 [0, 0, 0, 0, 0, 0, 0, 0]) 0 (nums .u8 l) = nums .u8 (l ++ List.replicate (8 - l.length) 0) := by
  unfold splice nums
  rw [List.take_zero, List.nil_append, Nat.zero_add, List.length_map, List.map_append, ← List.map_drop]
  congr 2
  match l, h with
  | [], _ => rfl
  | [_], _ => rfl
  | [_, _], _ => rfl
  | [_, _, _], _ => rfl
  | [_, _, _, _], _ => rfl
  | [_, _, _, _, _], _ => rfl
  | [_, _, _, _, _, _], _ => rfl
  | [_, _, _, _, _, _, _], _ => rfl
theorem tagEnd_length (l : List Int) (n : Int) (h : l.length < 8) : (tagEnd l n).length = 8 := by unfold tagEnd; rw [List.length_set, List.length_append, List.length_replicate]; omega
theorem tagEnd_byte (l : List Int) (n : Int) (hb : ByteL l) : ByteL (tagEnd l n) := by
  intro x hx
  unfold tagEnd at hx
  rcases List.mem_or_eq_of_mem_set hx with hx | rfl
  · rcases List.mem_append.1 hx with hx | hx
    · exact hb x hx
    · obtain ⟨_, rfl⟩ := List.mem_replicate.1 hx
      omega
  · omega
theorem tag255_bd {s : Int × Int × Int × Int} (h : Sip s) : Sip (tag255 s) := ⟨h.1, h.2.1, xr64_w h.2.2.1 ⟨by decide, by decide⟩, h.2.2.2⟩
def sipN : Nat → Int × Int × Int × Int → Int × Int × Int × Int
  | 0, s => s
  | n + 1, s => sipR (sipN n s)
theorem sipN_bd {s : Int × Int × Int × Int} (h : Sip s) : ∀ n, Sip (sipN n s)
  | 0 => h
  | n + 1 => sipR_bd (sipN_bd h n)
set_option maxHeartbeats 8000000 in
set_option maxRecDepth 100000 in
theorem key_tag.calls (A0 : Option Addr) (c0 : Nat) (l0 : List Int) (A1 : Option Addr) (c1 : Nat) (l1 : List Int) (r : List Int) (w : World) (hr0 : Kd.C (Kd.int .u8) w A0 l0.length l0) (hc0 : l0.length ≤ c0) (hr1 : Kd.C (Kd.int .u8) w A1 l1.length l1) (hc1 : l1.length ≤ c1) (h : key_tag.f l0 l1 = some r) :
    Calls Tryd.prog 29 #[.slice A0 l0.length c0, .slice A1 l1.length c1] w fun e w' => ∃ v0_ : Value, e = .returned v0_ ∧ Kd.R (Kd.int .u8) 5 w' w.heap.size (fun _ => True) v0_ r ∧ Below w.heap.size w w' := by
  have HR0 := Aside0.mk hr0
  have HC0 := Aside0.mk hc0
  have HR1 := Aside0.mk hr1
  have HC1 := Aside0.mk hc1
  clear hr0 hc0 hr1 hc1
  have hq : l0.length = 16 ∧ (ByteL l0 ∧ ByteL l1) ∧ tagOf l0 l1 = r := by
    unfold key_tag.f at h
    split at h
    · rename_i hc
      cases h
      exact ⟨hc.1, ⟨byteL_all hc.2.1, byteL_all hc.2.2⟩, rfl⟩
    · cases h
  clear h
  obtain ⟨hl0, ⟨hb0, hb1⟩, he⟩ := hq
  obtain ⟨i0, hi0, _, hsz0, _⟩ := info_parts info5
  have hcA := print_take_of (P := Tryd.prog) (Value.int .u8) 0 27 5 .i64 Tryd.underlying27 hi0 hsz0 A0 c0 l0 8 (by decide) (by rw [hl0]; decide) HC0.out
  obtain ⟨hcutA, hA, hAc⟩ := hcA
  obtain ⟨AB, hcutB, hB, hBc⟩ := print_drop_of (P := Tryd.prog) (Value.int .u8) 0 27 5 .i64 Tryd.underlying27 hi0 hsz0 A0 c0 l0 8 (by decide) (by rw [hl0]; decide) HC0.out
  have HRA := Aside0.mk (Kd.C_of_reads (h1 := fun _ => rfl) (hA _ (Kd.reads_of_C HR0.out)))
  have HRB := Aside0.mk (Kd.C_of_reads (h1 := fun _ => rfl) (hB _ (Kd.reads_of_C HR0.out)))
  have HCA := Aside0.mk hAc
  have HCB := Aside0.mk hBc
  clear hA hB hAc hBc hi0 hsz0
  have eA : (l0.take (8 : Int).toNat).length = 8 := by rw [List.length_take, hl0]; rfl
  have eB : (l0.drop (8 : Int).toNat).length = 8 := by rw [List.length_drop, hl0]; rfl
  rw [eA] at hcutA
  rw [eB] at hcutB
  have EA := Aside0.mk eA
  have EB := Aside0.mk eB
  have HL0 := Aside0.mk hl0
  have HY0 := Aside0.mk hb0
  have HY1 := Aside0.mk hb1
  obtain ⟨k, hk⟩ : ∃ k, leN (l0.take 8) = k := ⟨_, rfl⟩
  obtain ⟨m, hm⟩ : ∃ m, leN (l0.drop 8) = m := ⟨_, rfl⟩
  have hkw : W64 k := by rw [← hk]; exact leN_w64 (byteL_take hb0 8) (by rw [List.length_take]; omega)
  have hmw : W64 m := by rw [← hm]; exact leN_w64 (byteL_drop hb0 8) (by rw [List.length_drop]; omega)
  have HE : Aside0 ((fun p : (Int × Int × Int × Int) × List Int => tagLast (sipTake p.1 (leN (tagEnd p.2 l1.length)))) (tagEat l1.length (tagStart k m) l1) = r) := ⟨by rw [← he, ← hk, ← hm]; rfl⟩
  have HK := Aside0.mk hk
  have HM := Aside0.mk hm
  have HKW := Aside0.mk hkw
  have HMW := Aside0.mk hmw
  clear hl0 eA eB hb0 hb1 hk hm he
  have x1 : Go.bits .xor .u64 8317987319222330741 k = Hand.xr 8317987319222330741 k := Hand.xor_u64 (by decide) (by decide) hkw.1 hkw.2
  have x2 : Go.bits .xor .u64 7237128888997146477 m = Hand.xr 7237128888997146477 m := Hand.xor_u64 (by decide) (by decide) hmw.1 hmw.2
  have x3 : Go.bits .xor .u64 7816392313619706465 k = Hand.xr 7816392313619706465 k := Hand.xor_u64 (by decide) (by decide) hkw.1 hkw.2
  have x4 : Go.bits .xor .u64 8387220255154660723 m = Hand.xr 8387220255154660723 m := Hand.xor_u64 (by decide) (by decide) hmw.1 hmw.2
  clear hkw hmw
  go_enter Tryd.func29, Tryd.ntmps29
  go_wp2
  go_quiet (first | (go_at_call 38; (with_reducible refine (get_le.calls A0 _ 8 (l0.take (8 : Int).toNat) _ ?side1 ?side2 ?side3 (by decide)).mono ?_); (case side1 => have h := HRA.out; rw [EA.out] at h; repeat (first | exact h | (with_reducible refine Kd.C_drewN ?_ _) | (with_reducible refine Kd.C_drew ?_))); (case side2 => have h := HCA.out; rw [EA.out] at h; exact h); (case side3 => exact byteL_take HY0.out _); rw [show leN (l0.take (8 : Int).toNat) = k from HK.out]; rintro e w' ⟨rfl, ⟨nd, rfl⟩⟩; (try first | exact ⟨rfl, _, World.drewN_drewN _ _ _⟩ | exact ⟨rfl, _, Eq.trans (World.drewN_drewN _ _ _) (congrArg (World.drewN _) (Nat.add_assoc _ _ _))⟩)) | (go_at_call 38; (with_reducible refine (get_le.calls AB _ 8 (l0.drop (8 : Int).toNat) _ ?side1 ?side2 ?side3 (by decide)).mono ?_); (case side1 => have h := HRB.out; rw [EB.out] at h; repeat (first | exact h | (with_reducible refine Kd.C_drewN ?_ _) | (with_reducible refine Kd.C_drew ?_))); (case side2 => have h := HCB.out; rw [EB.out] at h; exact h); (case side3 => exact byteL_drop HY0.out _); rw [show leN (l0.drop (8 : Int).toNat) = m from HM.out]; rintro e w' ⟨rfl, ⟨nd, rfl⟩⟩; (try first | exact ⟨rfl, _, World.drewN_drewN _ _ _⟩ | exact ⟨rfl, _, Eq.trans (World.drewN_drewN _ _ _) (congrArg (World.drewN _) (Nat.add_assoc _ _ _))⟩)))
  obtain ⟨W0, hW0⟩ : ∃ W0, w.drewN nq = W0 := ⟨_, rfl⟩
  rw [hW0]
  have HB0 : Aside0 (Below w.heap.size w W0) := ⟨by rw [← hW0]; exact pw_below_drewN (Below.refl _ _) _⟩
  clear hW0 hcutA hcutB
  go_wp2
  obtain ⟨W1, hW1⟩ : ∃ W1, W0.alloc (.cells #[.int .u64 (Hand.xr 8317987319222330741 k), .int .u64 (Hand.xr 7237128888997146477 m), .int .u64 (Hand.xr 7816392313619706465 k), .int .u64 (Hand.xr 8387220255154660723 m)] 75) = W1 := ⟨_, rfl⟩
  rw [hW1]
  obtain ⟨g, hg⟩ : ∃ g, W0.heap.size = g := ⟨_, rfl⟩
  have HG0 := Aside0.mk hg
  have HB1 : Aside0 (Below w.heap.size w W1) := ⟨by rw [← hW1]; exact below_alloc HB0.out _⟩
  have HGE : Aside0 (w.heap.size ≤ g) := ⟨by rw [← hg]; exact HB0.out.size⟩
  have HS : Aside0 (FourS 75 W1 W1 g (tagStart k m)) := ⟨⟨by rw [← hW1, ← hg]; exact heap_alloc_new _ _, Below.refl _ _, KeepBut.refl _ _ _⟩⟩
  have HSB : Aside0 (Sip (tagStart k m)) := ⟨tagStart_bd HKW.out HMW.out⟩
  rw [hg]
  clear hg hW1 x1 x2 x3 x4
  go_loopg [8] (l1.length + 1) (fun q s8 wx => ∃ (A : Option Addr) (c : Nat) (l : List Int) (s : Int × Int × Int × Int), s8 = .slice A l.length c ∧ Aside0 (l.length + 1 ≤ q) ∧ Aside0 (Kd.C (Kd.int .u8) w A l.length l) ∧ Aside0 (l.length ≤ c) ∧ Aside0 (ByteL l) ∧ Aside0 (Sip s) ∧ Aside0 (tagEat l.length s l = tagEat l1.length (tagStart k m) l1) ∧ Aside0 (FourS 75 W1 wx g s))
  case atStart => exact ⟨A1, c1, l1, tagStart k m, rfl, ⟨Nat.le_refl _⟩, HR1, HC1, HY1, HSB, ⟨rfl⟩, HS⟩
  case round =>
    obtain ⟨A, c, l, s, rfl, HQ, HR, HC, HY, HP, HT, HF⟩ := hrel
    by_cases h8 : 8 ≤ l.length
    · have h8b : decide ((8 : Int) ≤ (l.length : Int)) = true := decide_eq_true (by omega)
      cases gk with
      | zero => exact absurd HQ.out (by omega)
      | succ q =>
        obtain ⟨i1, hi1, _, hsz1, _⟩ := info_parts info5
        obtain ⟨hcutT, hT, hTc⟩ := print_take_of (P := Tryd.prog) (Value.int .u8) 0 27 5 .i64 Tryd.underlying27 hi1 hsz1 A c l 8 (by decide) (by omega) HC.out
        obtain ⟨AD, hcutD, hD, hDc⟩ := print_drop_of (P := Tryd.prog) (Value.int .u8) 0 27 5 .i64 Tryd.underlying27 hi1 hsz1 A c l 8 (by decide) (by omega) HC.out
        have HRT := Aside0.mk (Kd.C_below (Kd.C_of_reads (h1 := fun _ => rfl) (hT _ (Kd.reads_of_C HR.out))) (HB1.out.trans (HF.out.2.1.mono HGE.out)))
        have HRD := Aside0.mk (Kd.C_of_reads (h1 := fun _ => rfl) (hD _ (Kd.reads_of_C HR.out)))
        have HCT := Aside0.mk hTc
        have HCD := Aside0.mk hDc
        clear hT hD hTc hDc hi1 hsz1
        have eT : (l.take (8 : Int).toNat).length = 8 := by rw [List.length_take]; exact Nat.min_eq_left h8
        rw [eT] at hcutT
        have ET := Aside0.mk eT
        obtain ⟨v, hv⟩ : ∃ v, leN (l.take 8) = v := ⟨_, rfl⟩
        have HV := Aside0.mk hv
        have HVW : Aside0 (W64 v) := ⟨by rw [← hv]; exact leN_w64 (byteL_take HY.out 8) (by rw [List.length_take]; omega)⟩
        have HT2 : Aside0 (tagEat (l.drop (8 : Int).toNat).length (sipTake s v) (l.drop (8 : Int).toNat) = tagEat l1.length (tagStart k m) l1) := ⟨by
          rw [← HT.out, ← hv, tagEat_fuel l.length s l (Nat.le_refl _) (l.length + 1) (by omega), tagEat_more _ s l h8]
          exact tagEat_fuel _ _ _ (Nat.le_refl _) _ (by rw [List.length_drop]; omega)⟩
        have HQ2 : Aside0 ((l.drop (8 : Int).toNat).length + 1 ≤ q) := ⟨by have := HQ.out; rw [List.length_drop]; show l.length - 8 + 1 ≤ q; omega⟩
        clear eT hv
        go_wp2_with (first | (go_at_call 38; (with_reducible refine (get_le.calls A _ 8 (l.take (8 : Int).toNat) _ ?side1 ?side2 ?side3 (by decide)).mono ?_); (case side1 => have h := HRT.out; rw [ET.out] at h; exact h); (case side2 => have h := HCT.out; rw [ET.out] at h; exact h); (case side3 => exact byteL_take HY.out _); rw [show leN (l.take (8 : Int).toNat) = v from HV.out]; rintro e w' ⟨rfl, ⟨nd, rfl⟩⟩) | (go_at_call 41; (with_reducible refine (mixer_take.calls g s v W1 _ ?side1 HP.out HVW.out).mono ?_); (case side1 => exact HF.out.drewN _); rintro e w' ⟨rfl, hf⟩; have HF2 := Aside0.mk hf; clear hf))
        go_roundg q
        case measure => omega
        case rel => exact ⟨AD, _, l.drop (8 : Int).toNat, sipTake s v, by rw [List.length_drop]; rfl, HQ2, HRD, HCD, ⟨byteL_drop HY.out _⟩, ⟨sipTake_bd HP.out HVW.out⟩, HT2, HF2⟩
    · have h8b : decide ((8 : Int) ≤ (l.length : Int)) = false := decide_eq_false (by omega)
      have hR := Kd.C_below HR.out (HB1.out.trans (HF.out.2.1.mono HGE.out))
      obtain ⟨WZ, hWZ⟩ : ∃ WZ, WZ = wr := ⟨_, rfl⟩
      subst hWZ
      have hAl : (WZ.alloc (.cells (nums .u8 [0, 0, 0, 0, 0, 0, 0, 0]).toArray 77)).heap[WZ.heap.size]? = some (.cells (nums .u8 [0, 0, 0, 0, 0, 0, 0, 0]).toArray 77 (0, 0)) := heap_alloc_new _ _
      have hBl : Below WZ.heap.size WZ (WZ.alloc (.cells (nums .u8 [0, 0, 0, 0, 0, 0, 0, 0]).toArray 77)) := below_alloc (Below.refl _ _) _
      have hsr := copy_src (Kd.reads_of_C (Kd.C_alloc hR (.cells (nums .u8 [0, 0, 0, 0, 0, 0, 0, 0]).toArray 77)))
      obtain ⟨i1, hi1, _, hsz1, _⟩ := info_parts info5
      have hs1 : (Tryd.prog.info? 5).map (·.size) = some 1 := by rw [hi1, Option.map_some, hsz1]
      have hn : (nums .u8 l).length = Nat.min l.length 8 := by simp only [nums, List.length_map]; exact (Nat.min_eq_left (by omega)).symm
      have hl8 : (nums .u8 l).length = l.length := by simp [nums]
      have hpo : 0 < (nums .u8 l).length → some (⟨WZ.heap.size, 0, none⟩ : Addr) = some ⟨WZ.heap.size, 0, none⟩ ∧ ∃ ad, A = some ad ∧ ∀ j v, (nums .u8 l)[j]? = some v → (WZ.alloc (.cells (nums .u8 [0, 0, 0, 0, 0, 0, 0, 0]).toArray 77)).cell? (ad.add j) = some v := fun h0 => ⟨rfl, hsr (by rw [← hl8]; exact h0)⟩
      have hfi : 0 + (nums .u8 l).length ≤ (nums .u8 [0, 0, 0, 0, 0, 0, 0, 0]).length := by rw [hl8, Nat.zero_add]; show l.length ≤ 8; omega
      have hon : ∀ v ∈ nums .u8 l, v.oneCell' = true := by intro v hv; simp only [nums, List.mem_map] at hv; obtain ⟨a, _, rfl⟩ := hv; rfl
      clear hsr
      have HSP := Aside0.mk (splice_zeros l (by omega))
      have HLT : Aside0 (l.length < 8) := ⟨by omega⟩
      have HLX : Aside0 (tagLast (sipTake s (leN (tagEnd l l1.length))) = r) := ⟨by have h := HE.out; rw [← HT.out, tagEat_done _ _ _ HLT.out] at h; exact h⟩
      have HP1 : Aside0 (Sip (sipTake s (leN (tagEnd l l1.length)))) := ⟨sipTake_bd HP.out (leN_w64 (tagEnd_byte l _ HY.out) (by rw [tagEnd_length l _ HLT.out]; exact Nat.le_refl _))⟩
      obtain ⟨v, hv⟩ : ∃ v, leN (tagEnd l l1.length) = v := ⟨_, rfl⟩
      rw [hv] at HLX HP1
      have HV := Aside0.mk hv
      obtain ⟨a1, b1, e1, d1, hs1⟩ : ∃ a1 b1 e1 d1, sipTake s v = (a1, b1, e1, d1) := ⟨_, _, _, _, rfl⟩
      rw [hs1] at HLX HP1
      have HS1 := Aside0.mk hs1
      have x5 : Go.bits .xor .u64 e1 255 = Hand.xr e1 255 := Hand.xor_u64 HP1.out.2.2.1.1 HP1.out.2.2.1.2 (by decide) (by decide)
      have HP2 : Aside0 (Sip (a1, b1, Hand.xr e1 255, d1)) := ⟨tag255_bd HP1.out⟩
      have HLY : Aside0 (lowN 8 (sipX (sipN 4 (a1, b1, Hand.xr e1 255, d1))) = r) := ⟨HLX.out⟩
      clear hs1
      have HVW : Aside0 (W64 v) := ⟨by rw [← hv]; exact leN_w64 (tagEnd_byte l _ HY.out) (by rw [tagEnd_length l _ HLT.out]; exact Nat.le_refl _)⟩
      clear hv
      go_wp2_with (first
        | ((with_reducible refine gate_builtin (b := .copy) (xs := #[.tmp 35, .tmp 36]) rfl ?_); (refine wpList_copy_splice rfl (.tmp 35) (.tmp 36) 27 27 rfl 5 Tryd.underlying27 hs1 _ A 8 8 l.length c rfl rfl WZ.heap.size 0 (nums .u8 [0, 0, 0, 0, 0, 0, 0, 0]) 77 hAl (nums .u8 l) hn hpo hfi hon WZ.heap.size WZ hBl (Nat.le_refl _) ?_; intro w9 hh hb9; have hh2 := hh.out; rw [HSP.out] at hh2; have HH := Aside0.mk hh2; have HB9 := Aside0.mk hb9; have f7 := blk_frozen hh2 7; have k7 : w9.cell? ⟨WZ.heap.size, 7, none⟩ = some (.int .u8 ((l ++ List.replicate (8 - l.length) 0).getD 7 0)) := (blk_cell hh2 7).trans (by have h7 : 7 < (l ++ List.replicate (8 - l.length) (0 : Int)).length := (by rw [List.length_append, List.length_replicate]; omega); simp only [nums, List.getElem?_toArray, List.getElem?_map, List.getElem?_eq_getElem h7, List.getD_eq_getElem?_getD, Option.map_some, Option.getD_some]); clear hh hh2 hb9 hAl hBl hn hpo hfi hon hs1 hi1 hsz1))
        | (go_at_call 38; clear k7 f7; have HH2 : Aside0 ((w9.setCell ⟨WZ.heap.size, 7, none⟩ (.int .u8 ((l1.length : Int) % 256))).heap[WZ.heap.size]? = some (.cells (nums .u8 (tagEnd l l1.length)).toArray 77 (0, 0))) := ⟨blk_put HH.out 7 _ (by simp [nums, tagEnd, List.map_set])⟩; (with_reducible refine (get_le.calls (some ⟨WZ.heap.size, 0, none⟩) 8 8 (tagEnd l l1.length) _ ?side1 (Nat.le_refl _) ?side3 (by decide)).mono ?_); (case side1 => have h := blk_C HH2.out (by rw [tagEnd_length l _ HLT.out]; decide); rw [tagEnd_length l _ HLT.out] at h; exact h); (case side3 => exact tagEnd_byte l _ HY.out); rw [HV.out]; rintro e w' ⟨rfl, ⟨nd, rfl⟩⟩)
        | (go_at_call 41; (with_reducible refine (mixer_take.calls g s v W1 _ ?side1 HP.out HVW.out).mono ?_); (case side1 => exact FourAt.drewN (FourS.below (T := 75) (s := s) HF.out (below_set HB9.out (Nat.le_refl _))) _); rintro e w' ⟨rfl, hf⟩; rw [HS1.out] at hf; have HF2 := Aside0.mk hf; have k2 := HF2.out.1.c2; have f2 := HF2.out.1.fz 2; clear hf))
      clear x5 k2 f2
      have HF3 := Aside0.mk (HF2.out.set2 (Hand.xr e1 255))
      go_loopg [49] 4 (fun q s49 wx => ∃ i : Nat, i + q = 4 ∧ s49 = .int .i64 i ∧ Aside0 (FourS 75 W1 wx g (sipN i (a1, b1, Hand.xr e1 255, d1))))
      case atStart => exact ⟨0, by omega, rfl, HF3⟩
      case round =>
        clear HF2 HF3
        obtain ⟨i, hig, rfl, HN⟩ := hrel
        cases gk with
        | succ q =>
          have hi : i < 4 := by omega
          have hi2 : (i : Int) < 4 := by omega
          go_wp2_with (first | (go_at_call 42; (with_reducible refine (mixer_round.s g _ W1 _ HN.out (sipN_bd HP2.out _)).mono ?_); rintro e w' ⟨rfl, hf⟩; have HN2 := Aside0.mk hf; clear hf))
          go_roundg q
          case measure => omega
          case rel => exact ⟨i + 1, by omega, by first | rfl | simp, HN2⟩
        | zero =>
          obtain rfl : i = 4 := by omega
          clear hig
          obtain ⟨a2, b2, e2, d2, hs2⟩ : ∃ a2 b2 e2 d2, sipN 4 (a1, b1, Hand.xr e1 255, d1) = (a2, b2, e2, d2) := ⟨_, _, _, _, rfl⟩
          have hp2 := sipN_bd HP2.out 4
          have hly := HLY.out
          rw [hs2] at HN hp2 hly
          have HLZ := Aside0.mk hly
          have k0 := HN.out.1.c0
          have k1 := HN.out.1.c1
          have k2 := HN.out.1.c2
          have k3 := HN.out.1.c3
          have y1 : Go.bits .xor .u64 a2 b2 = Hand.xr a2 b2 := Hand.xor_u64 hp2.1.1 hp2.1.2 hp2.2.1.1 hp2.2.1.2
          have hw1 := xr64_w hp2.1 hp2.2.1
          have y2 : Go.bits .xor .u64 (Hand.xr a2 b2) e2 = Hand.xr (Hand.xr a2 b2) e2 := Hand.xor_u64 hw1.1 hw1.2 hp2.2.2.1.1 hp2.2.2.1.2
          have hw2 := xr64_w hw1 hp2.2.2.1
          have y3 : Go.bits .xor .u64 (Hand.xr (Hand.xr a2 b2) e2) d2 = Hand.xr (Hand.xr (Hand.xr a2 b2) e2) d2 := Hand.xor_u64 hw2.1 hw2.2 hp2.2.2.2.1 hp2.2.2.2.2
          clear hw1 hw2 hp2 hs2 hly HLY
          have HBW : Aside0 (Below w.heap.size w wr) := ⟨HB1.out.trans (HN.out.2.1.mono HGE.out)⟩
          go_wp2_with (first | (go_at_call 40; (with_reducible refine (putL8.calls (w0 := w) (xs := []) _ (by decide) (Kd.R_nil _ _ _ _ _) HBW.out).mono ?_); rintro e w5 ⟨v5, rfl, ho, hb⟩; have HO5 := Aside0.mk ho; have HB5 := Aside0.mk hb; clear ho hb))
          go_ret
          exact ⟨_, rfl, by rw [← HLZ.out]; exact HO5.out, HB5.out⟩

/-! ### key_Tag: function 15 -/
def key_Tag.f (l0 : List Int) (l1 : List Int) : Option (List Int × Int) := if (l0.length : Int) = 16 then (if (l1.length : Int) > 131072 then (some (([] : List Int), 3)) else ((key_tag.f l0 l1).bind fun t112 => (some (t112, 0)))) else (some (([] : List Int), 1))
set_option maxHeartbeats 8000000 in
set_option maxRecDepth 100000 in
theorem key_Tag.calls (A0 : Option Addr) (c0 : Nat) (l0 : List Int) (A1 : Option Addr) (c1 : Nat) (l1 : List Int) (r1 : List Int) (r2 : Int) (w : World) (hr0 : Kd.C (Kd.int .u8) w A0 l0.length l0) (hc0 : l0.length ≤ c0) (hr1 : Kd.C (Kd.int .u8) w A1 l1.length l1) (hc1 : l1.length ≤ c1) (h : key_Tag.f l0 l1 = some (r1, r2)) :
    Calls Tryd.prog 15 #[.slice A0 l0.length c0, .slice A1 l1.length c1] w fun e w' => ∃ v0_ : Value, e = .returned (.tuple #[v0_, .int .i64 r2]) ∧ Kd.R (Kd.int .u8) 5 w' w.heap.size (fun _ => True) v0_ r1 ∧ Below w.heap.size w w' := by
  have HR0 := Aside0.mk hr0
  have HC0 := Aside0.mk hc0
  clear hr0 hc0
  have HR1 := Aside0.mk hr1
  have HC1 := Aside0.mk hc1
  clear hr1 hc1
  have HB := Aside0.mk (Below.refl w.heap.size w)
  have H : (if (l0.length : Int) = 16 then (if (l1.length : Int) > 131072 then (some (([] : List Int), 3)) else ((key_tag.f l0 l1).bind fun t112 => (some (t112, 0)))) else (some (([] : List Int), 1))) = some (r1, r2) := h
  clear h
  by_cases c3 : (l0.length : Int) = 16
  · rw [if_pos c3] at H
    have c3b0 : ((l0.length : Int) == 16) = true := beq_iff_eq.mpr c3
    have c3b1 : ((l0.length : Int) != 16) = false := bne_eq_false_iff_eq.mpr c3
    clear c3
    by_cases c4 : (l1.length : Int) > 131072
    · rw [if_pos c4] at H
      have c4b0 : decide (131072 < (l1.length : Int)) = true := decide_eq_true c4
      have c4b1 : decide (131072 < l1.length) = true := decide_eq_true (by omega)
      clear c4
      simp only [Option.some.injEq, Prod.mk.injEq] at H
      obtain ⟨rfl, rfl⟩ := H
      go_enter Tryd.func15, Tryd.ntmps15
      go_wp2
      go_ret2
      exact ⟨_, by first | rfl | (simp [errW_none, errW_some] <;> rfl) | (simp [*, errW_none, errW_some] <;> rfl), by first | exact Kd.R_nil _ _ _ _ _ | exact Kd.N_nil _ _ _ _ _ | exact Kd.V_nil _ _ _ _ _ | exact Kd.Q_nil _ _ _ _ _ | exact Kd.S_nil _ _ _ _ _, by repeat (first | (with_reducible first | exact HB.out | apply below_alloc | apply pw_below_drewN | apply below_drew1) | exact HB.out)⟩
    · rw [if_neg c4] at H
      have c4b0 : decide (131072 < (l1.length : Int)) = false := decide_eq_false c4
      have c4b1 : decide (131072 < l1.length) = false := decide_eq_false (by omega)
      clear c4
      replace H := Option.bind_eq_some_iff.mp H
      obtain ⟨t112, A50, H⟩ := H
      replace H : (some (t112, 0)) = some (r1, r2) := H
      have A5 := Aside0.mk A50
      clear A50
      simp only [Option.some.injEq, Prod.mk.injEq] at H
      obtain ⟨rfl, rfl⟩ := H
      go_enter Tryd.func15, Tryd.ntmps15
      go_wp2_with (first | ((with_reducible refine gate_callee (f := 29) rfl ?_); refine goesL_ (some 14) rfl rfl Tryd.func29 (by kernel_rfl) rfl #[.slice A0 l0.length c0, .slice A1 l1.length c1] rfl (by (try simp only [List.map_toArray, List.map_cons, List.map_nil]); first | done | rfl | (simp only [List.length_drop, List.length_take]; rfl)) ?_; (with_reducible refine (key_tag.calls _ _ l0 _ _ l1 t112 _ ?side1 ?side2 ?side3 ?side4 A5.out).mono ?_); (case side1 => repeat (first | exact HR0.out | (with_reducible refine Kd.C_alloc ?_ _) | (with_reducible refine Kd.C_drewN ?_ _) | (with_reducible refine Kd.C_drew ?_))); (case side2 => exact HC0.out); (case side3 => repeat (first | exact HR1.out | (with_reducible refine Kd.C_alloc ?_ _) | (with_reducible refine Kd.C_drewN ?_ _) | (with_reducible refine Kd.C_drew ?_))); (case side4 => exact HC1.out); rintro e w6 ⟨v113, rfl, ho0, hb⟩; refine ⟨_, rfl, ?_⟩; have n0_ := Aside0.mk (Kd.R_lower ho0 (below_size (by repeat (first | (with_reducible first | exact HB.out | apply below_alloc | apply pw_below_drewN | apply below_drew1) | exact HB.out)))); have n1_ := Aside0.mk (below_step (by repeat (first | (with_reducible first | exact HB.out | apply below_alloc | apply pw_below_drewN | apply below_drew1) | exact HB.out)) hb); clear HB; have HO114 := n0_; have HB := n1_; clear n0_ n1_; (try clear hb); (try clear hb2); (try clear hk); (try clear hi); (try clear ho0)))
      go_ret2
      exact ⟨_, by first | rfl | (simp [errW_none, errW_some] <;> rfl) | (simp [*, errW_none, errW_some] <;> rfl), by (with_reducible repeat (first | apply Kd.R_alloc | apply Kd.R_drewN | apply Kd.R_drew)); exact HO114.out, by repeat (first | (with_reducible first | exact HB.out | apply below_alloc | apply pw_below_drewN | apply below_drew1) | exact HB.out)⟩
  · rw [if_neg c3] at H
    have c3b0 : ((l0.length : Int) == 16) = false := beq_eq_false_iff_ne.mpr c3
    have c3b1 : ((l0.length : Int) != 16) = true := bne_iff_ne.mpr c3
    simp only [Option.some.injEq, Prod.mk.injEq] at H
    obtain ⟨rfl, rfl⟩ := H
    go_enter Tryd.func15, Tryd.ntmps15
    go_wp2
    go_ret2
    exact ⟨_, by first | rfl | (simp [errW_none, errW_some] <;> rfl) | (simp [*, errW_none, errW_some] <;> rfl), by first | exact Kd.R_nil _ _ _ _ _ | exact Kd.N_nil _ _ _ _ _ | exact Kd.V_nil _ _ _ _ _ | exact Kd.Q_nil _ _ _ _ _ | exact Kd.S_nil _ _ _ _ _, by repeat (first | (with_reducible first | exact HB.out | apply below_alloc | apply pw_below_drewN | apply below_drew1) | exact HB.out)⟩

theorem key_Tag.callsm (A0 : Option Addr) (c0 m0 : Nat) (l0 : List Int) (A1 : Option Addr) (c1 m1 : Nat) (l1 : List Int) (r1 : List Int) (r2 : Int) (w : World) (hm0 : l0.length = m0) (hm1 : l1.length = m1) (hr0 : Kd.C (Kd.int .u8) w A0 m0 l0) (hc0 : m0 ≤ c0) (hr1 : Kd.C (Kd.int .u8) w A1 m1 l1) (hc1 : m1 ≤ c1) (h : key_Tag.f l0 l1 = some (r1, r2)) :
    Calls Tryd.prog 15 #[.slice A0 m0 c0, .slice A1 m1 c1] w fun e w' => ∃ v0_ : Value, e = .returned (.tuple #[v0_, .int .i64 r2]) ∧ Kd.R (Kd.int .u8) 5 w' w.heap.size (fun _ => True) v0_ r1 ∧ Below w.heap.size w w' := by
  subst hm0 hm1
  exact key_Tag.calls A0 c0 l0 A1 c1 l1 r1 r2 w hr0 hc0 hr1 hc1 h

/-! ### wireglasslaw21_known: function 5 -/
-- EXT rounds=0 making=1
def wireglasslaw21_known.f : Option (Bool) := some true
theorem counted32 : wireglasslaw21_counted.f 33 32 = some [0, 1, 2, 3, 4, 5, 6, 7, 8, 9, 10, 11, 12, 13, 14, 15, 16, 17, 18, 19, 20, 21, 22, 23, 24, 25, 26, 27, 28, 29, 30, 31] := by decide +kernel
theorem counted16 : wireglasslaw21_counted.f 17 16 = some [0, 1, 2, 3, 4, 5, 6, 7, 8, 9, 10, 11, 12, 13, 14, 15] := by decide +kernel
theorem counted15 : wireglasslaw21_counted.f 16 15 = some [0, 1, 2, 3, 4, 5, 6, 7, 8, 9, 10, 11, 12, 13, 14] := by decide +kernel
theorem stream_known : key_Stream.f 3 [0, 1, 2, 3, 4, 5, 6, 7, 8, 9, 10, 11, 12, 13, 14, 15, 16, 17, 18, 19, 20, 21, 22, 23, 24, 25, 26, 27, 28, 29, 30, 31] 1 [0, 0, 0, 9, 0, 0, 0, 74, 0, 0, 0, 0] 4 = some ([16, 241, 231, 228], 0) := by decide +kernel
theorem tag_known : key_Tag.f [0, 1, 2, 3, 4, 5, 6, 7, 8, 9, 10, 11, 12, 13, 14, 15] [0, 1, 2, 3, 4, 5, 6, 7, 8, 9, 10, 11, 12, 13, 14] = some ([229, 69, 190, 73, 97, 202, 41, 161], 0) := by decide +kernel
theorem str_known1 : strOfNums [16, 241, 231, 228] = ⟨#[16, 241, 231, 228]⟩ := by decide +kernel
theorem str_known2 : strOfNums [229, 69, 190, 73, 97, 202, 41, 161] = ⟨#[229, 69, 190, 73, 97, 202, 41, 161]⟩ := by decide +kernel
set_option maxHeartbeats 8000000 in
set_option maxRecDepth 100000 in
theorem wireglasslaw21_known.calls (r : Bool) (w : World) (h : wireglasslaw21_known.f = some r) :
    Calls Tryd.prog 5 #[] w fun e w' => e = .returned (.bool r) ∧ Below w.heap.size w w' := by
  obtain rfl := Option.some.inj h
  clear h
  have HSA := Aside0.mk str_known1
  have HSB := Aside0.mk str_known2
  go_enter Tryd.func5, Tryd.ntmps5
  go_wp2_with (first
    | (go_at_call 15; (with_reducible refine (key_Tag.callsm _ _ 16 _ _ _ 15 _ _ _ _ rfl rfl (Kd.C_below (Kd.R_reads' HO4.out).2.2 HB5x.out) (Kd.R_reads' HO4.out).2.1 (Kd.R_reads' HO5.out).2.2 (Kd.R_reads' HO5.out).2.1 tag_known).mono ?_); rintro e w6 ⟨v6, rfl, ho, hb⟩; obtain ⟨A6, c6, e6⟩ := Kd.R_slice ho; subst e6; have HO6 := Aside0.mk ho; have HB6 := Aside0.mk (HB5.out.trans (hb.mono HB5.out.size)); have hb36 := HB4x.out.trans ((HB5x.out.trans (hb.mono HB5x.out.size)).mono HB4x.out.size); have s3 := Kd.C_string (P := Tryd.prog) (src := 27) (dst := 9) (c := c3) Tryd.underlying27 Tryd.underlying5 Tryd.underlying9 (Kd.C_below HC3.out hb36); rw [HSA.out] at s3; have s6 := Kd.C_string (P := Tryd.prog) (src := 27) (dst := 9) (n := 8) (c := c6) Tryd.underlying27 Tryd.underlying5 Tryd.underlying9 (Kd.R_reads' ho).2.2; rw [HSB.out] at s6; clear ho hb hb36)
    | (go_at_call 14; (with_reducible refine (wireglasslaw21_counted.calls 16 15 _ _ counted15).mono ?_); have H4 := HO4.out; rintro e w5 ⟨v5, rfl, ho, hb⟩; obtain ⟨A5, c5, e5⟩ := Kd.R_slice ho; subst e5; have HO5 := Aside0.mk ho; have HB5 := Aside0.mk (HB4.out.trans (hb.mono HB4.out.size)); have HB5x := Aside0.mk hb; clear ho hb H4)
    | (go_at_call 14; (with_reducible refine (wireglasslaw21_counted.calls 17 16 _ _ counted16).mono ?_); have H3 := HC3.out; rintro e w4 ⟨v4, rfl, ho, hb⟩; obtain ⟨A4, c4, e4⟩ := Kd.R_slice ho; subst e4; have HO4 := Aside0.mk ho; have HB4 := Aside0.mk (HB3.out.trans (hb.mono HB3.out.size)); have HB4x := Aside0.mk hb; clear ho hb H3)
    | (go_at_call 13; (with_reducible refine (key_Stream.callsm 3 _ _ 32 _ 1 _ _ 12 _ 4 _ 4 _ _ rfl rfl rfl (Kd.C_alloc (Kd.R_reads' HO2.out).2.2 _) (Kd.R_reads' HO2.out).2.1 (Kd.R_reads' (lit_R w2 w2.heap.size [0, 0, 0, 9, 0, 0, 0, 74, 0, 0, 0, 0] (Nat.le_refl _) (by decide))).2.2 (Nat.le_refl _) stream_known).mono ?_); rintro e w3 ⟨A3, c3, rfl, hl, hc, hb⟩; have HC3 := Aside0.mk hc; have HB3 := Aside0.mk ((below_alloc HB2.out _).trans (hb.mono (below_alloc HB2.out _).size)); clear hl hc hb)
    | (go_at_call 14; (with_reducible refine (wireglasslaw21_counted.calls 33 32 _ _ counted32).mono ?_); rintro e w2 ⟨v2, rfl, ho, hb⟩; obtain ⟨A2, c2, e2⟩ := Kd.R_slice ho; subst e2; have HO2 := Aside0.mk ho; have HB2 := Aside0.mk hb; clear ho hb))
  go_ret
  exact ⟨rfl, HB6.out⟩

-- NOT PRINTED: function 16 (strings_Lines)

/-! ### stringslite_HasSuffix: function 44 -/
def stringslite_HasSuffix.f (a0 : ByteArray) (a1 : ByteArray) : Option (Bool) := if (a0.size : Int) ≥ (a1.size : Int) then (if 0 ≤ (wrap64 ((a0.size : Int) - (a1.size : Int))) then (if (wrap64 ((a0.size : Int) - (a1.size : Int))) ≤ (a0.size : Int) then (some ((a0.extract ((wrap64 ((a0.size : Int) - (a1.size : Int))) : Int).toNat a0.size).toList == a1.toList)) else (none)) else (none)) else (some false)
set_option maxHeartbeats 8000000 in
set_option maxRecDepth 100000 in
theorem stringslite_HasSuffix.calls (a0 : ByteArray) (a1 : ByteArray) (r : Bool) (w : World) (h : stringslite_HasSuffix.f a0 a1 = some r) :
    Calls Tryd.prog 44 #[.string a0, .string a1] w fun e w' => e = .returned (.bool r) ∧ Drawn0 w w' := by
  have H : (if (a0.size : Int) ≥ (a1.size : Int) then (if 0 ≤ (wrap64 ((a0.size : Int) - (a1.size : Int))) then (if (wrap64 ((a0.size : Int) - (a1.size : Int))) ≤ (a0.size : Int) then (some ((a0.extract ((wrap64 ((a0.size : Int) - (a1.size : Int))) : Int).toNat a0.size).toList == a1.toList)) else (none)) else (none)) else (some false)) = some r := h
  clear h
  by_cases c3 : (a0.size : Int) ≥ (a1.size : Int)
  · rw [if_pos c3] at H
    have c3b0 : decide ((a1.size : Int) ≤ (a0.size : Int)) = true := decide_eq_true c3
    have c3b1 : decide (a1.size ≤ a0.size) = true := decide_eq_true (Int.ofNat_le.mp c3)
    clear c3
    obtain ⟨ji4, hji4⟩ : ∃ j_ : Int, (wrap64 ((a0.size : Int) - (a1.size : Int))) = j_ := ⟨_, rfl⟩
    replace H : (if 0 ≤ (ji4) then (if (ji4) ≤ (a0.size : Int) then (some ((a0.extract ((ji4) : Int).toNat a0.size).toList == a1.toList)) else (none)) else (none)) = some r := by first | (rw [hji4] at H; exact H) | (simp only [hji4] at H ⊢; exact H)
    have hji4w : (IntKind.i64.wrap ((a0.size : Int) - (a1.size : Int))) = ji4 := (i64_w _).trans hji4
    by_cases c5 : 0 ≤ (ji4)
    · rw [if_pos c5] at H
      have c5b0 := eq_true c5
      have c5b1 : decide (0 ≤ (ji4)) = true := decide_eq_true c5
      clear c5
      by_cases c6 : (ji4) ≤ (a0.size : Int)
      · rw [if_pos c6] at H
        have c6b0 := eq_true c6
        have c6b1 : decide ((ji4) ≤ (a0.size : Int)) = true := decide_eq_true c6
        clear c6
        obtain rfl := Option.some.inj H
        go_enter Tryd.func44, Tryd.ntmps44
        go_wp2
        go_ret
        exact ⟨by first | rfl | (simp; done) | (simp only [← hji4] <;> (first | rfl | simp)) | (simp [*]; done), by repeat (first | exact Drawn0.refl _ | apply Drawn0.step)⟩
      · rw [if_neg c6] at H
        exact absurd H (by simp)
    · rw [if_neg c5] at H
      exact absurd H (by simp)
  · rw [if_neg c3] at H
    have c3b0 : decide ((a1.size : Int) ≤ (a0.size : Int)) = false := decide_eq_false c3
    have c3b1 : decide (a1.size ≤ a0.size) = false := decide_eq_false (fun h => c3 (Int.ofNat_le.mpr h))
    clear c3
    obtain rfl := Option.some.inj H
    go_enter Tryd.func44, Tryd.ntmps44
    go_wp2
    go_ret
    exact ⟨by first | rfl | (simp; done) | (simp [*]; done), by repeat (first | exact Drawn0.refl _ | apply Drawn0.step)⟩

/-! ### stringslite_TrimSuffix: function 32 -/
def stringslite_TrimSuffix.f (a0 : ByteArray) (a1 : ByteArray) : Option (ByteArray) := (stringslite_HasSuffix.f a0 a1).bind fun t115 => (if t115 = true then (if 0 ≤ (wrap64 ((a0.size : Int) - (a1.size : Int))) then (if (wrap64 ((a0.size : Int) - (a1.size : Int))) ≤ (a0.size : Int) then (some (a0.extract 0 ((wrap64 ((a0.size : Int) - (a1.size : Int))) : Int).toNat)) else (none)) else (none)) else (some a0))
set_option maxHeartbeats 8000000 in
set_option maxRecDepth 100000 in
theorem stringslite_TrimSuffix.calls (a0 : ByteArray) (a1 : ByteArray) (r : ByteArray) (w : World) (h : stringslite_TrimSuffix.f a0 a1 = some r) :
    Calls Tryd.prog 32 #[.string a0, .string a1] w fun e w' => e = .returned (.string r) ∧ Drawn0 w w' := by
  have H : ((stringslite_HasSuffix.f a0 a1).bind fun t115 => (if t115 = true then (if 0 ≤ (wrap64 ((a0.size : Int) - (a1.size : Int))) then (if (wrap64 ((a0.size : Int) - (a1.size : Int))) ≤ (a0.size : Int) then (some (a0.extract 0 ((wrap64 ((a0.size : Int) - (a1.size : Int))) : Int).toNat)) else (none)) else (none)) else (some a0))) = some r := h
  clear h
  replace H := Option.bind_eq_some_iff.mp H
  obtain ⟨t115, A30, H⟩ := H
  replace H : (if t115 = true then (if 0 ≤ (wrap64 ((a0.size : Int) - (a1.size : Int))) then (if (wrap64 ((a0.size : Int) - (a1.size : Int))) ≤ (a0.size : Int) then (some (a0.extract 0 ((wrap64 ((a0.size : Int) - (a1.size : Int))) : Int).toNat)) else (none)) else (none)) else (some a0)) = some r := H
  have A3 := Aside0.mk A30
  clear A30
  by_cases c4 : t115 = true
  · subst c4
    have H1 : (if 0 ≤ (wrap64 ((a0.size : Int) - (a1.size : Int))) then (if (wrap64 ((a0.size : Int) - (a1.size : Int))) ≤ (a0.size : Int) then (some (a0.extract 0 ((wrap64 ((a0.size : Int) - (a1.size : Int))) : Int).toNat)) else (none)) else (none)) = some r := by rw [if_pos rfl] at H; exact H
    clear H
    have H := H1
    clear H1
    obtain ⟨ji5, hji5⟩ : ∃ j_ : Int, (wrap64 ((a0.size : Int) - (a1.size : Int))) = j_ := ⟨_, rfl⟩
    replace H : (if 0 ≤ (ji5) then (if (ji5) ≤ (a0.size : Int) then (some (a0.extract 0 ((ji5) : Int).toNat)) else (none)) else (none)) = some r := by first | (rw [hji5] at H; exact H) | (simp only [hji5] at H ⊢; exact H)
    (try rw [hji5] at A3)
    have hji5w : (IntKind.i64.wrap ((a0.size : Int) - (a1.size : Int))) = ji5 := (i64_w _).trans hji5
    by_cases c6 : 0 ≤ (ji5)
    · rw [if_pos c6] at H
      have c6b0 := eq_true c6
      have c6b1 : decide (0 ≤ (ji5)) = true := decide_eq_true c6
      clear c6
      by_cases c7 : (ji5) ≤ (a0.size : Int)
      · rw [if_pos c7] at H
        have c7b0 := eq_true c7
        have c7b1 : decide ((ji5) ≤ (a0.size : Int)) = true := decide_eq_true c7
        clear c7
        obtain rfl := Option.some.inj H
        go_enter Tryd.func32, Tryd.ntmps32
        go_wp2_with (first | ((with_reducible refine gate_callee (f := 44) rfl ?_); refine goesL_ (some 7) rfl rfl Tryd.func44 (by kernel_rfl) rfl #[.string a0, .string a1] rfl (by (try simp only [List.map_toArray, List.map_cons, List.map_nil]); first | done | rfl | (simp only [List.length_drop, List.length_take]; rfl)) ?_; (with_reducible refine (stringslite_HasSuffix.calls a0 a1 true _ A3.out).mono ?_); rintro e w' ⟨rfl, ⟨nd, rfl⟩⟩; refine ⟨_, rfl, ?_⟩))
        go_ret
        exact ⟨by first | rfl | (simp; done) | (simp only [← hji5] <;> (first | rfl | simp)) | (simp [*]; done), by repeat (first | exact Drawn0.refl _ | apply Drawn0.step)⟩
      · rw [if_neg c7] at H
        exact absurd H (by simp)
    · rw [if_neg c6] at H
      exact absurd H (by simp)
  · replace c4 := Bool.eq_false_iff.mpr c4
    subst c4
    have H1 : (some a0) = some r := by rw [if_neg (show ¬ (false = true) by decide)] at H; exact H
    clear H
    have H := H1
    clear H1
    obtain rfl := Option.some.inj H
    go_enter Tryd.func32, Tryd.ntmps32
    go_wp2_with (first | ((with_reducible refine gate_callee (f := 44) rfl ?_); refine goesL_ (some 7) rfl rfl Tryd.func44 (by kernel_rfl) rfl #[.string a0, .string a1] rfl (by (try simp only [List.map_toArray, List.map_cons, List.map_nil]); first | done | rfl | (simp only [List.length_drop, List.length_take]; rfl)) ?_; (with_reducible refine (stringslite_HasSuffix.calls a0 a1 false _ A3.out).mono ?_); rintro e w' ⟨rfl, ⟨nd, rfl⟩⟩; refine ⟨_, rfl, ?_⟩))
    go_ret
    exact ⟨by first | rfl | (simp; done) | (simp [*]; done), by repeat (first | exact Drawn0.refl _ | apply Drawn0.step)⟩

/-! ### strings_TrimSuffix: function 17 -/
def strings_TrimSuffix.f (a0 : ByteArray) (a1 : ByteArray) : Option (ByteArray) := (stringslite_TrimSuffix.f a0 a1).bind fun t116 => (some t116)
set_option maxHeartbeats 8000000 in
set_option maxRecDepth 100000 in
theorem strings_TrimSuffix.calls (a0 : ByteArray) (a1 : ByteArray) (r : ByteArray) (w : World) (h : strings_TrimSuffix.f a0 a1 = some r) :
    Calls Tryd.prog 17 #[.string a0, .string a1] w fun e w' => e = .returned (.string r) ∧ Drawn0 w w' := by
  have H : ((stringslite_TrimSuffix.f a0 a1).bind fun t116 => (some t116)) = some r := h
  clear h
  replace H := Option.bind_eq_some_iff.mp H
  obtain ⟨t116, A30, H⟩ := H
  replace H : (some t116) = some r := H
  have A3 := Aside0.mk A30
  clear A30
  obtain rfl := Option.some.inj H
  go_enter Tryd.func17, Tryd.ntmps17
  go_wp2_with (first | ((with_reducible refine gate_callee (f := 32) rfl ?_); refine goesL_ (some 7) rfl rfl Tryd.func32 (by kernel_rfl) rfl #[.string a0, .string a1] rfl (by (try simp only [List.map_toArray, List.map_cons, List.map_nil]); first | done | rfl | (simp only [List.length_drop, List.length_take]; rfl)) ?_; (with_reducible refine (stringslite_TrimSuffix.calls a0 a1 t116 _ A3.out).mono ?_); rintro e w' ⟨rfl, ⟨nd, rfl⟩⟩; refine ⟨_, rfl, ?_⟩))
  go_ret
  exact ⟨by first | rfl | (simp; done) | (simp [*]; done), by repeat (first | exact Drawn0.refl _ | apply Drawn0.step)⟩

end Go.Proofs.YtbdakgkjomanlaaDoor.D
