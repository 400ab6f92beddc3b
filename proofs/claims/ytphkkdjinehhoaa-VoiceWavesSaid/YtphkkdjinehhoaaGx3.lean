/- Laid by a program of this repo over the translation: each Go function as a plain Lean function with the proof that the call comes to its answers, or a statement's row out of these; conditions: the hypotheses of each theorem. -/
import Derived.Test.YtphkkdjinehhoaaGx0
import Derived.Test.YtphkkdjinehhoaaGx1
import Derived.Test.YtphkkdjinehhoaaGx2
namespace Go.Proofs.Ytphkkdjinehhoaa.G
open Go.RowKit Go.Proofs.YtphkkdjinehhoaaW.PrintWords Go.Proofs.YtphkkdjinehhoaaW.PrintLast Go.Proofs.YtphkkdjinehhoaaW.PrintMore
attribute [local go_sem] max2_int min2_int max_two min_two max_three min_three max_four min_four   -- for this text's walks alone
set_option linter.unusedVariables false
set_option linter.unusedSimpArgs false

/-! ### wireglassref25_Coder_decode: function 33 -/
-- EXT rounds=0 making=0
-- STATE wireglassref25.Coder
def wireglassref25_Coder_decode.f (s0_0 : Int) (s0_1 : Int) (s0_2 : List Int) (a1 : Int) : Option (Int × Int × Int) := if vOk s0_0 s0_1 s0_2 a1 = true then some (vP s0_0 (rd s0_2 s0_1) a1, vP s0_0 (rd s0_2 s0_1) a1, vK s0_1 a1) else none
set_option maxHeartbeats 8000000 in
set_option maxRecDepth 100000 in
theorem wireglassref25_Coder_decode.calls (g : Nat) (s0_0 : Int) (s0_1 : Int) (s0_2 : List Int) (a1 : Int) (r1 : Int) (r2 : Int) (r3 : Int) (w0 w : World) (hI : IsS53 w0 w g s0_0 s0_1 s0_2) (hB : Below w0.heap.size w0 w) (h : wireglassref25_Coder_decode.f s0_0 s0_1 s0_2 a1 = some (r1, r2, r3)) :
    Calls Try.prog 33 #[.pointer (some ⟨g, 0, none⟩), .int .i64 a1] w fun e w' => e = .returned (.int .i64 r1) ∧ IsS53 w0 w' g r2 r3 s0_2 ∧ Below w0.heap.size w0 w' ∧ KeepBut w w' g none := by
  have HI0 := Aside0.mk hI
  have HK := Aside0.mk (KeepBut.refl w g none)
  have HL := Aside0.mk hB.size
  clear hI
  have HW0 := Aside0.mk hB.size
  have HB := Aside0.mk hB
  clear hB
  have H := Aside0.mk h
  clear h
  have hok : vOk s0_0 s0_1 s0_2 a1 = true := by
    have h := H.out
    unfold wireglassref25_Coder_decode.f at h
    by_cases c : vOk s0_0 s0_1 s0_2 a1 = true
    · exact c
    · rw [if_neg c] at h; cases h
  have H2 : some (vP s0_0 (rd s0_2 s0_1) a1, vP s0_0 (rd s0_2 s0_1) a1, vK s0_1 a1) = some (r1, r2, r3) := by
    have h := H.out
    unfold wireglassref25_Coder_decode.f at h
    rwa [if_pos hok] at h
  clear H
  obtain ⟨hk0, hk1, hlen, hc0, hc1, hp0, hp1, ht0, ht1⟩ := of_decide_eq_true hok
  clear hok
  obtain ⟨ASz2_2, cSz2_2, HGz2, hgz2, HSz2_2⟩ := HI0.out
  have hcz2_0 := cellS53_0 HGz2
  have hcz2_1 := cellS53_1 HGz2
  have hcz2_2 := cellS53_2 HGz2
  have hfz2_0 := blk_frozen HGz2 0
  have hfz2_1 := blk_frozen HGz2 1
  clear HGz2 hgz2
  have hkl : s0_1 < (s0_2.length : Int) := by omega
  obtain ⟨ad, ead, hx⟩ := Kd.at_int (Kd.C_below HSz2_2 HB.out) s0_1 hk0 hkl
  cases ead
  obtain ⟨t, ht⟩ : ∃ t, rd s0_2 s0_1 = t := ⟨_, rfl⟩
  rw [ht] at hx H2 ht0 ht1
  injection H2 with H2
  simp only [Prod.mk.injEq] at H2
  obtain ⟨rfl, rfl, rfl⟩ := H2
  clear ht
  have hb4 : ∀ b : Bool, (Go.bits .and .i64 a1 4 != 0) = b → (b = true ↔ a1 / 4 % 2 = 1) := fun b h => by subst h; exact vBit4 a1 hc0 hc1
  have hb2 : ∀ b : Bool, (Go.bits .and .i64 a1 2 != 0) = b → (b = true ↔ a1 / 2 % 2 = 1) := fun b h => by subst h; exact vBit2 a1 hc0 hc1
  have hb1 : ∀ b : Bool, (Go.bits .and .i64 a1 1 != 0) = b → (b = true ↔ a1 % 2 = 1) := fun b h => by subst h; exact vBit1 a1 hc0 hc1
  have hb8 : ∀ b : Bool, (Go.bits .and .i64 a1 8 != 0) = b → (b = true ↔ a1 / 8 = 1) := fun b h => by subst h; exact vBit8 a1 hc0 hc1
  go_enter Try.func33, Try.ntmps33
  go_wp2
  go_quiet (fail)
  go_upto_if 22 with (fail)
  go_cut [6] from 8 (fun s6 wx => s6 = .int .i64 (vSum t a1 1) ∧ wx = w.drewN nq)
  case first =>
    cases hb : (Go.bits .and .i64 a1 4 != 0) with
    | true =>
      have hq := (hb4 _ hb).1 rfl
      go_wp2
      go_meet
      case rel => exact ⟨by rw [← vSum1t ht0 ht1 hq, vSum0, Hand.w64 (by omega) (by omega)], rfl⟩
    | false =>
      have hq : ¬ _ := fun h => Bool.false_ne_true ((hb4 _ hb).2 h)
      go_wp2
      go_meet
      case rel => exact ⟨by rw [← vSum1f hq]; rw [vSum0], rfl⟩
  obtain ⟨rfl, rfl⟩ := hcut
  go_upto_if 28 with (fail)
  go_cut [6] from 8 (fun s6 wx => s6 = .int .i64 (vSum t a1 2) ∧ wx = w.drewN nq)
  case first =>
    cases hb : (Go.bits .and .i64 a1 2 != 0) with
    | true =>
      have hq := (hb2 _ hb).1 rfl
      go_wp2
      go_meet
      case rel => exact ⟨by rw [← vSum2t ht0 ht1 hq], rfl⟩
    | false =>
      have hq : ¬ _ := fun h => Bool.false_ne_true ((hb2 _ hb).2 h)
      go_wp2
      go_meet
      case rel => exact ⟨by rw [← vSum2f hq], rfl⟩
  obtain ⟨rfl, rfl⟩ := hcut
  go_upto_if 35 with (fail)
  go_cut [6] from 8 (fun s6 wx => s6 = .int .i64 (vSum t a1 3) ∧ wx = w.drewN nq)
  case first =>
    cases hb : (Go.bits .and .i64 a1 1 != 0) with
    | true =>
      have hq := (hb1 _ hb).1 rfl
      go_wp2
      go_meet
      case rel => exact ⟨by rw [← vSum3t ht0 ht1 hq], rfl⟩
    | false =>
      have hq : ¬ _ := fun h => Bool.false_ne_true ((hb1 _ hb).2 h)
      go_wp2
      go_meet
      case rel => exact ⟨by rw [← vSum3f hq], rfl⟩
  obtain ⟨rfl, rfl⟩ := hcut
  rw [vSum3]
  have hd := vDelta_bd (a := a1) ht0 ht1
  obtain ⟨D, hD⟩ : ∃ D, (if a1 / 8 = 1 then - vDelta t a1 else vDelta t a1) = D := ⟨_, rfl⟩
  go_upto_if 42 with (fail)
  go_cut [6] from 8 (fun s6 wx => s6 = .int .i64 D ∧ wx = w.drewN nq)
  case first =>
    cases hb : (Go.bits .and .i64 a1 8 != 0) with
    | true =>
      have hq := (hb8 _ hb).1 rfl
      rw [if_pos hq] at hD
      go_wp2
      go_meet
      case rel => exact ⟨by rw [← hD], rfl⟩
    | false =>
      have hq : ¬ a1 / 8 = 1 := fun h => Bool.false_ne_true ((hb8 _ hb).2 h)
      rw [if_neg hq] at hD
      go_wp2
      go_meet
      case rel => exact ⟨by rw [← hD], rfl⟩
  obtain ⟨rfl, rfl⟩ := hcut
  have hP : vP s0_0 t a1 = min (max (s0_0 + D) (-32768)) 32767 := by unfold vP; rw [hD]
  have hDb : -400000 ≤ D ∧ D ≤ 400000 := by rw [← hD]; split <;> omega
  clear hD hb4 hb2 hb1 hb8
  have hw2 : wrap64 (s0_0 + D) = s0_0 + D := Hand.w64 (by omega) (by omega)
  obtain ⟨p1, hp1'⟩ : ∃ p1, vP s0_0 t a1 = p1 := ⟨_, rfl⟩
  rw [hp1'] at hP
  have HP := Aside0.mk hP
  clear hP
  have HQ := Aside0.mk hp1'
  clear hp1'
  go_upto_region 11 with (fail)
  go_cut [6] from 8 (fun s6 wx => s6 = .int .i64 D ∧ wx = (w.drewN nq).setCell ⟨g, 0, none⟩ (.int .i64 p1))
  case first =>
    go_wp2
    all_goals go_meet
    all_goals exact ⟨rfl, congrArg (fun z => (w.drewN nq).setCell ⟨g, 0, none⟩ (Value.int .i64 z)) (by have := HP.out; omega)⟩
  obtain ⟨rfl, rfl⟩ := hcut
  go_upto_region 13 with (fail)
  obtain ⟨W2, hW2⟩ : ∃ W2, ((w.drewN nq).setCell ⟨g, 0, none⟩ (.int .i64 p1)).alloc (.cells #[.int .i64 (-1), .int .i64 (-1), .int .i64 (-1), .int .i64 (-1), .int .i64 2, .int .i64 4, .int .i64 6, .int .i64 8] 3) = W2 := ⟨_, rfl⟩
  have HS1 : Aside0 (IsS53 w0 W2 g p1 s0_1 s0_2) := ⟨by rw [← hW2]; exact IsS53.alloc (IsS53.set_0 (IsS53.drewN HI0.out nq) _) _⟩
  have HB1 : Aside0 (Below w0.heap.size w0 W2) := ⟨by rw [← hW2]; exact below_alloc (below_set (pw_below_drewN HB.out nq) (IsS53.ge HI0.out)) _⟩
  have HK1 : Aside0 (KeepBut w W2 g none) := ⟨by rw [← hW2]; exact keep_alloc (KeepBut.set_ (keep_drewN HK.out nq) _ _) _⟩
  have hl : W2.cell? ⟨w.heap.size, (a1 % 8).toNat, none⟩ = some (.int .i64 (vTab a1)) := by
    rw [← hW2]
    have hb := heap_alloc_new ((w.drewN nq).setCell ⟨g, 0, none⟩ (.int .i64 p1)) (.cells #[.int .i64 (-1), .int .i64 (-1), .int .i64 (-1), .int .i64 (-1), .int .i64 2, .int .i64 4, .int .i64 6, .int .i64 8] 3)
    have hs : ((w.drewN nq).setCell ⟨g, 0, none⟩ (.int .i64 p1)).heap.size = w.heap.size := by simp
    rw [hs] at hb
    have hc := fun j => blk_cell hb j
    have h : a1 % 8 = 0 ∨ a1 % 8 = 1 ∨ a1 % 8 = 2 ∨ a1 % 8 = 3 ∨ a1 % 8 = 4 ∨ a1 % 8 = 5 ∨ a1 % 8 = 6 ∨ a1 % 8 = 7 := by omega
    unfold vTab
    rcases h with e | e | e | e | e | e | e | e <;> rw [e]
    · exact (hc 0).trans rfl
    · exact (hc 1).trans rfl
    · exact (hc 2).trans rfl
    · exact (hc 3).trans rfl
    · exact (hc 4).trans rfl
    · exact (hc 5).trans rfl
    · exact (hc 6).trans rfl
    · exact (hc 7).trans rfl
  rw [hW2]
  clear hW2 hcz2_0 hcz2_1 hcz2_2 hfz2_0 hfz2_1 hx HSz2_2
  obtain ⟨Aw, cw, HG, hg', HSr⟩ := HS1.out
  have hcz_0 := cellS53_0 HG
  have hcz_1 := cellS53_1 HG
  have hfz_1 := blk_frozen HG 1
  clear HG hg' HSr
  have htb := vTab_bd a1
  have hj0 : 0 ≤ a1 % 8 := by omega
  have hj1 : a1 % 8 < 8 := by omega
  have hw3 : wrap64 (s0_1 + vTab a1) = s0_1 + vTab a1 := Hand.w64 (by omega) (by omega)
  have key : ∀ x y x' y', x = x' → y = y' → ∀ W, IsS53 w0 W g x y s0_2 → IsS53 w0 W g x' y' s0_2 := by rintro _ _ _ _ rfl rfl _ h; exact h
  go_region
  all_goals go_wp2
  all_goals (repeat (go_quiet (fail); try go_wp2))
  all_goals go_ret
  all_goals refine ⟨?_, ?_, ?_, ?_⟩
  all_goals try (refine congrArg Ending.returned (congrArg (Value.int .i64) (?_ : _ = _)))
  all_goals try (repeat (first | with_reducible exact HB1.out | with_reducible apply below_drew1 | with_reducible apply pw_below_drewN | with_reducible refine below_set ?_ (IsS53.ge HI0.out)))
  all_goals try (repeat (first | with_reducible exact HK1.out | with_reducible apply KeepBut.set_ | with_reducible apply keep_drewN | with_reducible apply keep_drew))
  all_goals try (repeat (first | with_reducible exact HS1.out | with_reducible apply IsS53.drewN | with_reducible apply IsS53.drew | with_reducible apply IsS53.set_1 | with_reducible apply IsS53.set_0))
  all_goals ((try unfold vK); first | (have := HQ.out; omega) | exact key _ _ _ _ (HQ.out.symm) (by omega) _ (IsS53.set_1 HS1.out _))

/-! ### wireglassref25_Coder_code: function 32 -/
mutual
def wireglassref25_Coder_code.j0 : Nat → Int → Int → Int → Int → Int → List Int → Option (Int × Int × Int)
  | 0, _, _, _, _, _, _ => none
  | k + 1, x5, x6, x7, x1000, x1001, x1002 => if x5 ≥ x7 then (wireglassref25_Coder_code.j1 k (wrap64 (x5 - x7)) (wrap64 (x6 + 4)) x7 x1000 x1001 x1002) else (wireglassref25_Coder_code.j1 k x5 x6 x7 x1000 x1001 x1002)
def wireglassref25_Coder_code.j1 : Nat → Int → Int → Int → Int → Int → List Int → Option (Int × Int × Int)
  | 0, _, _, _, _, _, _ => none
  | k + 1, x5, x6, x7, x1000, x1001, x1002 => if x5 ≥ (wrap64 (Int.tdiv x7 2)) then (if (wrap64 (x5 - (wrap64 (Int.tdiv x7 2)))) ≥ (wrap64 (Int.tdiv x7 4)) then ((wireglassref25_Coder_decode.f x1000 x1001 x1002 (wrap64 ((wrap64 (x6 + 2)) + 1))).bind fun bt153 => (some (wrap64 ((wrap64 (x6 + 2)) + 1), bt153.2.1, bt153.2.2))) else ((wireglassref25_Coder_decode.f x1000 x1001 x1002 (wrap64 (x6 + 2))).bind fun bt156 => (some (wrap64 (x6 + 2), bt156.2.1, bt156.2.2)))) else (if x5 ≥ (wrap64 (Int.tdiv x7 4)) then ((wireglassref25_Coder_decode.f x1000 x1001 x1002 (wrap64 (x6 + 1))).bind fun bt159 => (some (wrap64 (x6 + 1), bt159.2.1, bt159.2.2))) else ((wireglassref25_Coder_decode.f x1000 x1001 x1002 x6).bind fun bt162 => (some (x6, bt162.2.1, bt162.2.2))))
end
def wireglassref25_Coder_code.f (k : Nat) (s0_0 : Int) (s0_1 : Int) (s0_2 : List Int) (a1 : Int) : Option (Int × Int × Int) := if 0 ≤ s0_1 then (if s0_1 < (s0_2.length : Int) then (if (wrap64 (a1 - s0_0)) < 0 then (wireglassref25_Coder_code.j0 k (wrap64 (-(wrap64 (a1 - s0_0)))) 8 (rd s0_2 s0_1) s0_0 s0_1 s0_2) else (wireglassref25_Coder_code.j0 k (wrap64 (a1 - s0_0)) 0 (rd s0_2 s0_1) s0_0 s0_1 s0_2)) else (none)) else (none)
theorem wireglassref25_Coder_code.mono_l : ∀ k, (∀ y0 y1 y2 y3 y4 y5, LeO (wireglassref25_Coder_code.j0 k y0 y1 y2 y3 y4 y5) (wireglassref25_Coder_code.j0 (k + 1) y0 y1 y2 y3 y4 y5)) ∧ (∀ y0 y1 y2 y3 y4 y5, LeO (wireglassref25_Coder_code.j1 k y0 y1 y2 y3 y4 y5) (wireglassref25_Coder_code.j1 (k + 1) y0 y1 y2 y3 y4 y5))
  | 0 => ⟨fun _ _ _ _ _ _ r h => by simp [wireglassref25_Coder_code.j0] at h, fun _ _ _ _ _ _ r h => by simp [wireglassref25_Coder_code.j1] at h⟩
  | k + 1 => by
    obtain ⟨ih0, ih1⟩ := wireglassref25_Coder_code.mono_l k
    refine ⟨?_, ?_⟩
    · intro y0 y1 y2 y3 y4 y5
      unfold wireglassref25_Coder_code.j0
      repeat' first
      | (with_reducible exact ih0 _ _ _ _ _ _)
      | (with_reducible exact ih1 _ _ _ _ _ _)
      | (with_reducible exact LeO.refl _)
      | (with_reducible exact LeO.none _)
      | (with_reducible refine LeO.ite ?_ ?_)
      | (with_reducible refine LeO.bind ?_ (fun _ => ?_))
      | exact ih0 _ _ _ _ _ _
      | exact ih1 _ _ _ _ _ _
      | exact LeO.none _
      | refine LeO.ite ?_ ?_
      | refine LeO.bind ?_ (fun _ => ?_)
    · intro y0 y1 y2 y3 y4 y5
      unfold wireglassref25_Coder_code.j1
      repeat' first
      | (with_reducible exact ih0 _ _ _ _ _ _)
      | (with_reducible exact ih1 _ _ _ _ _ _)
      | (with_reducible exact LeO.refl _)
      | (with_reducible exact LeO.none _)
      | (with_reducible refine LeO.ite ?_ ?_)
      | (with_reducible refine LeO.bind ?_ (fun _ => ?_))
      | exact ih0 _ _ _ _ _ _
      | exact ih1 _ _ _ _ _ _
      | exact LeO.none _
      | refine LeO.ite ?_ ?_
      | refine LeO.bind ?_ (fun _ => ?_)
theorem wireglassref25_Coder_code.mono : ∀ a0 a1 a2 a3 k, LeO (wireglassref25_Coder_code.f k a0 a1 a2 a3) (wireglassref25_Coder_code.f (k + 1) a0 a1 a2 a3) := by
  intro a0 a1 a2 a3 k
  obtain ⟨ih0, ih1⟩ := wireglassref25_Coder_code.mono_l k
  unfold wireglassref25_Coder_code.f
  repeat' first
      | (with_reducible exact ih0 _ _ _ _ _ _)
      | (with_reducible exact ih1 _ _ _ _ _ _)
      | (with_reducible exact LeO.refl _)
      | (with_reducible exact LeO.none _)
      | (with_reducible refine LeO.ite ?_ ?_)
      | (with_reducible refine LeO.bind ?_ (fun _ => ?_))
      | exact ih0 _ _ _ _ _ _
      | exact ih1 _ _ _ _ _ _
      | exact LeO.none _
      | refine LeO.ite ?_ ?_
      | refine LeO.bind ?_ (fun _ => ?_)
set_option maxHeartbeats 8000000 in
set_option maxRecDepth 100000 in
theorem wireglassref25_Coder_code.calls (k : Nat) (g : Nat) (s0_0 : Int) (s0_1 : Int) (s0_2 : List Int) (a1 : Int) (r1 : Int) (r2 : Int) (r3 : Int) (w0 w : World) (hI : IsS53 w0 w g s0_0 s0_1 s0_2) (hB : Below w0.heap.size w0 w) (h : wireglassref25_Coder_code.f k s0_0 s0_1 s0_2 a1 = some (r1, r2, r3)) :
    Calls Try.prog 32 #[.pointer (some ⟨g, 0, none⟩), .int .i64 a1] w fun e w' => e = .returned (.int .i64 r1) ∧ IsS53 w0 w' g r2 r3 s0_2 ∧ Below w0.heap.size w0 w' ∧ KeepBut w w' g none := by
  have HI0 := Aside0.mk hI
  have HK := Aside0.mk (KeepBut.refl w g none)
  have HL := Aside0.mk hB.size
  clear hI
  have HW0 := Aside0.mk hB.size
  have HB := Aside0.mk hB
  clear hB
  have H : (if 0 ≤ s0_1 then (if s0_1 < (s0_2.length : Int) then (if (wrap64 (a1 - s0_0)) < 0 then (wireglassref25_Coder_code.j0 k (wrap64 (-(wrap64 (a1 - s0_0)))) 8 (rd s0_2 s0_1) s0_0 s0_1 s0_2) else (wireglassref25_Coder_code.j0 k (wrap64 (a1 - s0_0)) 0 (rd s0_2 s0_1) s0_0 s0_1 s0_2)) else (none)) else (none)) = some (r1, r2, r3) := h
  clear h
  by_cases c3 : 0 ≤ s0_1
  · rw [if_pos c3] at H
    have c3b0 : decide (0 ≤ s0_1) = true := decide_eq_true c3
    clear c3
    by_cases c4 : s0_1 < (s0_2.length : Int)
    · rw [if_pos c4] at H
      have c4b0 : decide (s0_1 < (s0_2.length : Int)) = true := decide_eq_true c4
      clear c4
      have HC5 := Aside0.mk H
      clear H
      obtain ⟨ASz6_2, cSz6_2, HGz6, hgz6, HSz6_2⟩ := HI0.out
      have hcz6_0 := cellS53_0 HGz6
      have hcz6_1 := cellS53_1 HGz6
      have hcz6_2 := cellS53_2 HGz6
      have hfz6_0 := blk_frozen HGz6 0
      have hfz6_1 := blk_frozen HGz6 1
      clear HGz6 hgz6
      have p152 : 0 ≤ (s0_1 : Int) := of_decide_eq_true (by first | (with_reducible assumption) | assumption)
      have q152 : s0_1 < (s0_2.length : Int) := of_decide_eq_true (by first | (with_reducible assumption) | assumption)
      obtain ⟨ad152, e152, hx152_0⟩ := Kd.at_int HSz6_2 s0_1 p152 q152
      cases e152
      replace hx152_0 := pw_cell_below HB.out hx152_0
      replace p152 := eq_true p152
      replace q152 := eq_true q152
      go_enter Try.func32, Try.ntmps32
      go_upto_if 25 with (fail)
      repeat (go_quiet (fail); go_upto_if 25 with (fail))
      go_cut [5, 6] (fun v5 v6 wc => ∃ (kq : Nat) (x5_4 : Int) (x6_4 : Int), v5 = .int .i64 x5_4 ∧ v6 = .int .i64 x6_4 ∧ Aside0 (wireglassref25_Coder_code.j0 kq x5_4 x6_4 (rd s0_2 s0_1) s0_0 s0_1 s0_2 = some (r1, r2, r3)) ∧ Aside0 (kq ≤ k) ∧ Aside0 (IsS53 w0 wc g s0_0 s0_1 s0_2) ∧ Aside0 (KeepBut w wc g none) ∧ Aside0 (Below w0.heap.size w0 wc))
      case first =>
        have H := HC5.out
        clear HC5
        by_cases c7 : (wrap64 (a1 - s0_0)) < 0
        · rw [if_pos c7] at H
          have c7b0 : decide ((wrap64 (a1 - s0_0)) < 0) = true := decide_eq_true c7
          clear c7
          (first | rw [c7b0] | (simp only [i64_w, i32_w]; rw [c7b0]) | skip)
          have H' := Aside0.mk H
          clear H
          go_wp2
          repeat (go_quiet (fail); try go_wp2)
          go_meet
          case rel => exact ⟨_, (wrap64 (-(wrap64 (a1 - s0_0)))), (8), (by first | rfl | (simp; done) | (simp [*]; done)), (by first | rfl | (simp; done) | (simp [*]; done)), H', ⟨by first | omega | exact Nat.le_refl _⟩, ⟨by repeat (first | (with_reducible first | exact HI0.out | apply IsS53.alloc | apply IsS53.drewN | apply IsS53.drew | apply IsS53.set_0 | apply IsS53.set_1) | exact HI0.out)⟩, ⟨by repeat (first | (with_reducible first | exact HK.out | apply KeepBut.set_ | apply keep_drewN | apply keep_drew | apply keep_alloc) | exact HK.out)⟩, ⟨by repeat (first | (with_reducible first | exact HB.out | apply below_alloc | apply pw_below_drewN | apply below_drew1 | refine below_set ?_ (IsS53.ge HI0.out)) | exact HB.out)⟩⟩
        · rw [if_neg c7] at H
          have c7b0 : decide ((wrap64 (a1 - s0_0)) < 0) = false := decide_eq_false c7
          clear c7
          (first | rw [c7b0] | (simp only [i64_w, i32_w]; rw [c7b0]) | skip)
          have H' := Aside0.mk H
          clear H
          go_wp2
          repeat (go_quiet (fail); try go_wp2)
          go_meet
          case rel => exact ⟨_, (wrap64 (a1 - s0_0)), (0), (by first | rfl | (simp; done) | (simp [*]; done)), (by first | rfl | (simp; done) | (simp [*]; done)), H', ⟨by first | omega | exact Nat.le_refl _⟩, ⟨by repeat (first | (with_reducible first | exact HI0.out | apply IsS53.alloc | apply IsS53.drewN | apply IsS53.drew | apply IsS53.set_0 | apply IsS53.set_1) | exact HI0.out)⟩, ⟨by repeat (first | (with_reducible first | exact HK.out | apply KeepBut.set_ | apply keep_drewN | apply keep_drew | apply keep_alloc) | exact HK.out)⟩, ⟨by repeat (first | (with_reducible first | exact HB.out | apply below_alloc | apply pw_below_drewN | apply below_drew1 | refine below_set ?_ (IsS53.ge HI0.out)) | exact HB.out)⟩⟩
      case rest =>
        clear HC5
        try clear p1
        try clear q1
        try clear hx1
        try clear p2
        try clear c3
        try clear c3b0
        try clear c4
        try clear c4b0
        try clear p6
        try clear c7
        try clear c7b0
        try clear hcz6_0
        try clear hcz6_1
        try clear hcz6_2
        try clear hfz6_0
        try clear hfz6_1
        try clear hx152_0
        try clear p152
        try clear q152
        obtain ⟨kq, x5_4, x6_4, rfl, rfl, HA, HJ4, HI0, HK, HB⟩ := hcut
        cases kq with
        | zero => exact absurd HA.out (by simp [wireglassref25_Coder_code.j0])
        | succ kj4 =>
          have H := HA.out
          clear HA
          simp only [wireglassref25_Coder_code.j0] at H
          have HC8 := Aside0.mk H
          clear H
          go_upto_if 30 with (fail)
          repeat (go_quiet (fail); go_upto_if 30 with (fail))
          go_cut [5, 6] (fun v5 v6 wc => ∃ (kq : Nat) (x5_7 : Int) (x6_7 : Int), v5 = .int .i64 x5_7 ∧ v6 = .int .i64 x6_7 ∧ Aside0 (wireglassref25_Coder_code.j1 kq x5_7 x6_7 (rd s0_2 s0_1) s0_0 s0_1 s0_2 = some (r1, r2, r3)) ∧ Aside0 (kq ≤ kj4) ∧ Aside0 (IsS53 w0 wc g s0_0 s0_1 s0_2) ∧ Aside0 (KeepBut w wc g none) ∧ Aside0 (Below w0.heap.size w0 wc))
          case first =>
            have H := HC8.out
            clear HC8
            by_cases c9 : x5_4 ≥ (rd s0_2 s0_1)
            · rw [if_pos c9] at H
              have c9b0 : decide ((rd s0_2 s0_1) ≤ x5_4) = true := decide_eq_true c9
              clear c9
              (first | rw [c9b0] | (simp only [i64_w, i32_w]; rw [c9b0]) | skip)
              have H' := Aside0.mk H
              clear H
              go_wp2
              repeat (go_quiet (fail); try go_wp2)
              go_meet
              case rel => exact ⟨_, (wrap64 (x5_4 - (rd s0_2 s0_1))), (wrap64 (x6_4 + 4)), (by first | rfl | (simp; done) | (simp [*]; done)), (by first | rfl | (simp; done) | (simp [*]; done)), H', ⟨by have := HJ4.out; first | omega | exact Nat.le_refl _⟩, ⟨by repeat (first | (with_reducible first | exact HI0.out | apply IsS53.alloc | apply IsS53.drewN | apply IsS53.drew | apply IsS53.set_0 | apply IsS53.set_1) | exact HI0.out)⟩, ⟨by repeat (first | (with_reducible first | exact HK.out | apply KeepBut.set_ | apply keep_drewN | apply keep_drew | apply keep_alloc) | exact HK.out)⟩, ⟨by repeat (first | (with_reducible first | exact HB.out | apply below_alloc | apply pw_below_drewN | apply below_drew1 | refine below_set ?_ (IsS53.ge HI0.out)) | exact HB.out)⟩⟩
            · rw [if_neg c9] at H
              have c9b0 : decide ((rd s0_2 s0_1) ≤ x5_4) = false := decide_eq_false c9
              clear c9
              (first | rw [c9b0] | (simp only [i64_w, i32_w]; rw [c9b0]) | skip)
              have H' := Aside0.mk H
              clear H
              go_wp2
              repeat (go_quiet (fail); try go_wp2)
              go_meet
              case rel => exact ⟨_, (x5_4), (x6_4), (by first | rfl | (simp; done) | (simp [*]; done)), (by first | rfl | (simp; done) | (simp [*]; done)), H', ⟨by have := HJ4.out; first | omega | exact Nat.le_refl _⟩, ⟨by repeat (first | (with_reducible first | exact HI0.out | apply IsS53.alloc | apply IsS53.drewN | apply IsS53.drew | apply IsS53.set_0 | apply IsS53.set_1) | exact HI0.out)⟩, ⟨by repeat (first | (with_reducible first | exact HK.out | apply KeepBut.set_ | apply keep_drewN | apply keep_drew | apply keep_alloc) | exact HK.out)⟩, ⟨by repeat (first | (with_reducible first | exact HB.out | apply below_alloc | apply pw_below_drewN | apply below_drew1 | refine below_set ?_ (IsS53.ge HI0.out)) | exact HB.out)⟩⟩
          case rest =>
            clear HC8
            try clear p1
            try clear q1
            try clear hx1
            try clear p2
            try clear c3
            try clear c3b0
            try clear c4
            try clear c4b0
            try clear p6
            try clear c7
            try clear c7b0
            try clear c9
            try clear c9b0
            try clear hcz6_0
            try clear hcz6_1
            try clear hcz6_2
            try clear hfz6_0
            try clear hfz6_1
            try clear hx152_0
            try clear p1
            try clear p152
            try clear p2
            try clear p6
            try clear q1
            try clear q152
            obtain ⟨kq, x5_7, x6_7, rfl, rfl, HA, HJ7, HI0, HK, HB⟩ := hcut
            cases kq with
            | zero => exact absurd HA.out (by simp [wireglassref25_Coder_code.j1])
            | succ kj7 =>
              have H := HA.out
              clear HA
              simp only [wireglassref25_Coder_code.j1] at H
              by_cases c10 : x5_7 ≥ (wrap64 (Int.tdiv (rd s0_2 s0_1) 2))
              · rw [if_pos c10] at H
                have c10b0 : decide ((wrap64 (Int.tdiv (rd s0_2 s0_1) 2)) ≤ x5_7) = true := decide_eq_true c10
                clear c10
                by_cases c11 : (wrap64 (x5_7 - (wrap64 (Int.tdiv (rd s0_2 s0_1) 2)))) ≥ (wrap64 (Int.tdiv (rd s0_2 s0_1) 4))
                · rw [if_pos c11] at H
                  have c11b0 : decide ((wrap64 (Int.tdiv (rd s0_2 s0_1) 4)) ≤ (wrap64 (x5_7 - (wrap64 (Int.tdiv (rd s0_2 s0_1) 2))))) = true := decide_eq_true c11
                  clear c11
                  replace H := Option.bind_eq_some_iff.mp H
                  obtain ⟨⟨t153, t154, t155⟩, A120, H⟩ := H
                  replace H : (some (wrap64 ((wrap64 (x6_7 + 2)) + 1), t154, t155)) = some (r1, r2, r3) := H
                  have A12 := Aside0.mk A120
                  clear A120
                  simp only [Option.some.injEq, Prod.mk.injEq] at H
                  obtain ⟨rfl, rfl, rfl⟩ := H
                  go_wp2_with (first | (go_at_call 33; (with_reducible refine (wireglassref25_Coder_decode.calls g s0_0 s0_1 s0_2 (wrap64 ((wrap64 (x6_7 + 2)) + 1)) t153 t154 t155 w0 _ ?side1 ?side2 A12.out).mono ?_); (case side1 => repeat (first | (with_reducible first | exact HI0.out | apply IsS53.alloc | apply IsS53.drewN | apply IsS53.drew | apply IsS53.set_0 | apply IsS53.set_1) | exact HI0.out)); (case side2 => repeat (first | (with_reducible first | exact HB.out | apply below_alloc | apply pw_below_drewN | apply below_drew1 | refine below_set ?_ (IsS53.ge HI0.out)) | exact HB.out)); rintro e w13 ⟨rfl, hi, hb, hk⟩; have n0_ := Aside0.mk (KeepBut.trans (by repeat (first | (with_reducible first | exact HK.out | apply KeepBut.set_ | apply keep_drewN | apply keep_drew | apply keep_alloc) | exact HK.out)) hk (.inl rfl)); have n1_ := Aside0.mk (hb); have n2_ := Aside0.mk (hi); clear HK; clear HB; clear HI0; have HK := n0_; have HB := n1_; have HI0 := n2_; clear n0_ n1_ n2_; (try clear hb); (try clear hb2); (try clear hk); (try clear hi)))
                  repeat (go_quiet (first | (go_at_call 33; (with_reducible refine (wireglassref25_Coder_decode.calls g s0_0 s0_1 s0_2 (wrap64 ((wrap64 (x6_7 + 2)) + 1)) t153 t154 t155 w0 _ ?side1 ?side2 A12.out).mono ?_); (case side1 => repeat (first | (with_reducible first | exact HI0.out | apply IsS53.alloc | apply IsS53.drewN | apply IsS53.drew | apply IsS53.set_0 | apply IsS53.set_1) | exact HI0.out)); (case side2 => repeat (first | (with_reducible first | exact HB.out | apply below_alloc | apply pw_below_drewN | apply below_drew1 | refine below_set ?_ (IsS53.ge HI0.out)) | exact HB.out)); rintro e w13 ⟨rfl, hi, hb, hk⟩; have n0_ := Aside0.mk (KeepBut.trans (by repeat (first | (with_reducible first | exact HK.out | apply KeepBut.set_ | apply keep_drewN | apply keep_drew | apply keep_alloc) | exact HK.out)) hk (.inl rfl)); have n1_ := Aside0.mk (hb); have n2_ := Aside0.mk (hi); clear HK; clear HB; clear HI0; have HK := n0_; have HB := n1_; have HI0 := n2_; clear n0_ n1_ n2_; (try clear hb); (try clear hb2); (try clear hk); (try clear hi))); try go_wp2_with (first | (go_at_call 33; (with_reducible refine (wireglassref25_Coder_decode.calls g s0_0 s0_1 s0_2 (wrap64 ((wrap64 (x6_7 + 2)) + 1)) t153 t154 t155 w0 _ ?side1 ?side2 A12.out).mono ?_); (case side1 => repeat (first | (with_reducible first | exact HI0.out | apply IsS53.alloc | apply IsS53.drewN | apply IsS53.drew | apply IsS53.set_0 | apply IsS53.set_1) | exact HI0.out)); (case side2 => repeat (first | (with_reducible first | exact HB.out | apply below_alloc | apply pw_below_drewN | apply below_drew1 | refine below_set ?_ (IsS53.ge HI0.out)) | exact HB.out)); rintro e w13 ⟨rfl, hi, hb, hk⟩; have n0_ := Aside0.mk (KeepBut.trans (by repeat (first | (with_reducible first | exact HK.out | apply KeepBut.set_ | apply keep_drewN | apply keep_drew | apply keep_alloc) | exact HK.out)) hk (.inl rfl)); have n1_ := Aside0.mk (hb); have n2_ := Aside0.mk (hi); clear HK; clear HB; clear HI0; have HK := n0_; have HB := n1_; have HI0 := n2_; clear n0_ n1_ n2_; (try clear hb); (try clear hb2); (try clear hk); (try clear hi))))
                  go_ret
                  exact ⟨by first | rfl | (simp [errW_none, errW_some] <;> rfl) | (simp [*, errW_none, errW_some] <;> rfl), by repeat (first | (with_reducible first | exact HI0.out | apply IsS53.alloc | apply IsS53.drewN | apply IsS53.drew | apply IsS53.set_0 | apply IsS53.set_1) | exact HI0.out), by repeat (first | (with_reducible first | exact HB.out | apply below_alloc | apply pw_below_drewN | apply below_drew1 | refine below_set ?_ (IsS53.ge HI0.out)) | exact HB.out), by repeat (first | (with_reducible first | exact HK.out | apply KeepBut.set_ | apply keep_drewN | apply keep_drew | apply keep_alloc) | exact HK.out)⟩
                · rw [if_neg c11] at H
                  have c11b0 : decide ((wrap64 (Int.tdiv (rd s0_2 s0_1) 4)) ≤ (wrap64 (x5_7 - (wrap64 (Int.tdiv (rd s0_2 s0_1) 2))))) = false := decide_eq_false c11
                  clear c11
                  replace H := Option.bind_eq_some_iff.mp H
                  obtain ⟨⟨t156, t157, t158⟩, A140, H⟩ := H
                  replace H : (some (wrap64 (x6_7 + 2), t157, t158)) = some (r1, r2, r3) := H
                  have A14 := Aside0.mk A140
                  clear A140
                  simp only [Option.some.injEq, Prod.mk.injEq] at H
                  obtain ⟨rfl, rfl, rfl⟩ := H
                  go_wp2_with (first | (go_at_call 33; (with_reducible refine (wireglassref25_Coder_decode.calls g s0_0 s0_1 s0_2 (wrap64 (x6_7 + 2)) t156 t157 t158 w0 _ ?side1 ?side2 A14.out).mono ?_); (case side1 => repeat (first | (with_reducible first | exact HI0.out | apply IsS53.alloc | apply IsS53.drewN | apply IsS53.drew | apply IsS53.set_0 | apply IsS53.set_1) | exact HI0.out)); (case side2 => repeat (first | (with_reducible first | exact HB.out | apply below_alloc | apply pw_below_drewN | apply below_drew1 | refine below_set ?_ (IsS53.ge HI0.out)) | exact HB.out)); rintro e w15 ⟨rfl, hi, hb, hk⟩; have n0_ := Aside0.mk (KeepBut.trans (by repeat (first | (with_reducible first | exact HK.out | apply KeepBut.set_ | apply keep_drewN | apply keep_drew | apply keep_alloc) | exact HK.out)) hk (.inl rfl)); have n1_ := Aside0.mk (hb); have n2_ := Aside0.mk (hi); clear HK; clear HB; clear HI0; have HK := n0_; have HB := n1_; have HI0 := n2_; clear n0_ n1_ n2_; (try clear hb); (try clear hb2); (try clear hk); (try clear hi)))
                  repeat (go_quiet (first | (go_at_call 33; (with_reducible refine (wireglassref25_Coder_decode.calls g s0_0 s0_1 s0_2 (wrap64 (x6_7 + 2)) t156 t157 t158 w0 _ ?side1 ?side2 A14.out).mono ?_); (case side1 => repeat (first | (with_reducible first | exact HI0.out | apply IsS53.alloc | apply IsS53.drewN | apply IsS53.drew | apply IsS53.set_0 | apply IsS53.set_1) | exact HI0.out)); (case side2 => repeat (first | (with_reducible first | exact HB.out | apply below_alloc | apply pw_below_drewN | apply below_drew1 | refine below_set ?_ (IsS53.ge HI0.out)) | exact HB.out)); rintro e w15 ⟨rfl, hi, hb, hk⟩; have n0_ := Aside0.mk (KeepBut.trans (by repeat (first | (with_reducible first | exact HK.out | apply KeepBut.set_ | apply keep_drewN | apply keep_drew | apply keep_alloc) | exact HK.out)) hk (.inl rfl)); have n1_ := Aside0.mk (hb); have n2_ := Aside0.mk (hi); clear HK; clear HB; clear HI0; have HK := n0_; have HB := n1_; have HI0 := n2_; clear n0_ n1_ n2_; (try clear hb); (try clear hb2); (try clear hk); (try clear hi))); try go_wp2_with (first | (go_at_call 33; (with_reducible refine (wireglassref25_Coder_decode.calls g s0_0 s0_1 s0_2 (wrap64 (x6_7 + 2)) t156 t157 t158 w0 _ ?side1 ?side2 A14.out).mono ?_); (case side1 => repeat (first | (with_reducible first | exact HI0.out | apply IsS53.alloc | apply IsS53.drewN | apply IsS53.drew | apply IsS53.set_0 | apply IsS53.set_1) | exact HI0.out)); (case side2 => repeat (first | (with_reducible first | exact HB.out | apply below_alloc | apply pw_below_drewN | apply below_drew1 | refine below_set ?_ (IsS53.ge HI0.out)) | exact HB.out)); rintro e w15 ⟨rfl, hi, hb, hk⟩; have n0_ := Aside0.mk (KeepBut.trans (by repeat (first | (with_reducible first | exact HK.out | apply KeepBut.set_ | apply keep_drewN | apply keep_drew | apply keep_alloc) | exact HK.out)) hk (.inl rfl)); have n1_ := Aside0.mk (hb); have n2_ := Aside0.mk (hi); clear HK; clear HB; clear HI0; have HK := n0_; have HB := n1_; have HI0 := n2_; clear n0_ n1_ n2_; (try clear hb); (try clear hb2); (try clear hk); (try clear hi))))
                  go_ret
                  exact ⟨by first | rfl | (simp [errW_none, errW_some] <;> rfl) | (simp [*, errW_none, errW_some] <;> rfl), by repeat (first | (with_reducible first | exact HI0.out | apply IsS53.alloc | apply IsS53.drewN | apply IsS53.drew | apply IsS53.set_0 | apply IsS53.set_1) | exact HI0.out), by repeat (first | (with_reducible first | exact HB.out | apply below_alloc | apply pw_below_drewN | apply below_drew1 | refine below_set ?_ (IsS53.ge HI0.out)) | exact HB.out), by repeat (first | (with_reducible first | exact HK.out | apply KeepBut.set_ | apply keep_drewN | apply keep_drew | apply keep_alloc) | exact HK.out)⟩
              · rw [if_neg c10] at H
                have c10b0 : decide ((wrap64 (Int.tdiv (rd s0_2 s0_1) 2)) ≤ x5_7) = false := decide_eq_false c10
                clear c10
                by_cases c16 : x5_7 ≥ (wrap64 (Int.tdiv (rd s0_2 s0_1) 4))
                · rw [if_pos c16] at H
                  have c16b0 : decide ((wrap64 (Int.tdiv (rd s0_2 s0_1) 4)) ≤ x5_7) = true := decide_eq_true c16
                  clear c16
                  replace H := Option.bind_eq_some_iff.mp H
                  obtain ⟨⟨t159, t160, t161⟩, A170, H⟩ := H
                  replace H : (some (wrap64 (x6_7 + 1), t160, t161)) = some (r1, r2, r3) := H
                  have A17 := Aside0.mk A170
                  clear A170
                  simp only [Option.some.injEq, Prod.mk.injEq] at H
                  obtain ⟨rfl, rfl, rfl⟩ := H
                  go_wp2_with (first | (go_at_call 33; (with_reducible refine (wireglassref25_Coder_decode.calls g s0_0 s0_1 s0_2 (wrap64 (x6_7 + 1)) t159 t160 t161 w0 _ ?side1 ?side2 A17.out).mono ?_); (case side1 => repeat (first | (with_reducible first | exact HI0.out | apply IsS53.alloc | apply IsS53.drewN | apply IsS53.drew | apply IsS53.set_0 | apply IsS53.set_1) | exact HI0.out)); (case side2 => repeat (first | (with_reducible first | exact HB.out | apply below_alloc | apply pw_below_drewN | apply below_drew1 | refine below_set ?_ (IsS53.ge HI0.out)) | exact HB.out)); rintro e w18 ⟨rfl, hi, hb, hk⟩; have n0_ := Aside0.mk (KeepBut.trans (by repeat (first | (with_reducible first | exact HK.out | apply KeepBut.set_ | apply keep_drewN | apply keep_drew | apply keep_alloc) | exact HK.out)) hk (.inl rfl)); have n1_ := Aside0.mk (hb); have n2_ := Aside0.mk (hi); clear HK; clear HB; clear HI0; have HK := n0_; have HB := n1_; have HI0 := n2_; clear n0_ n1_ n2_; (try clear hb); (try clear hb2); (try clear hk); (try clear hi)))
                  repeat (go_quiet (first | (go_at_call 33; (with_reducible refine (wireglassref25_Coder_decode.calls g s0_0 s0_1 s0_2 (wrap64 (x6_7 + 1)) t159 t160 t161 w0 _ ?side1 ?side2 A17.out).mono ?_); (case side1 => repeat (first | (with_reducible first | exact HI0.out | apply IsS53.alloc | apply IsS53.drewN | apply IsS53.drew | apply IsS53.set_0 | apply IsS53.set_1) | exact HI0.out)); (case side2 => repeat (first | (with_reducible first | exact HB.out | apply below_alloc | apply pw_below_drewN | apply below_drew1 | refine below_set ?_ (IsS53.ge HI0.out)) | exact HB.out)); rintro e w18 ⟨rfl, hi, hb, hk⟩; have n0_ := Aside0.mk (KeepBut.trans (by repeat (first | (with_reducible first | exact HK.out | apply KeepBut.set_ | apply keep_drewN | apply keep_drew | apply keep_alloc) | exact HK.out)) hk (.inl rfl)); have n1_ := Aside0.mk (hb); have n2_ := Aside0.mk (hi); clear HK; clear HB; clear HI0; have HK := n0_; have HB := n1_; have HI0 := n2_; clear n0_ n1_ n2_; (try clear hb); (try clear hb2); (try clear hk); (try clear hi))); try go_wp2_with (first | (go_at_call 33; (with_reducible refine (wireglassref25_Coder_decode.calls g s0_0 s0_1 s0_2 (wrap64 (x6_7 + 1)) t159 t160 t161 w0 _ ?side1 ?side2 A17.out).mono ?_); (case side1 => repeat (first | (with_reducible first | exact HI0.out | apply IsS53.alloc | apply IsS53.drewN | apply IsS53.drew | apply IsS53.set_0 | apply IsS53.set_1) | exact HI0.out)); (case side2 => repeat (first | (with_reducible first | exact HB.out | apply below_alloc | apply pw_below_drewN | apply below_drew1 | refine below_set ?_ (IsS53.ge HI0.out)) | exact HB.out)); rintro e w18 ⟨rfl, hi, hb, hk⟩; have n0_ := Aside0.mk (KeepBut.trans (by repeat (first | (with_reducible first | exact HK.out | apply KeepBut.set_ | apply keep_drewN | apply keep_drew | apply keep_alloc) | exact HK.out)) hk (.inl rfl)); have n1_ := Aside0.mk (hb); have n2_ := Aside0.mk (hi); clear HK; clear HB; clear HI0; have HK := n0_; have HB := n1_; have HI0 := n2_; clear n0_ n1_ n2_; (try clear hb); (try clear hb2); (try clear hk); (try clear hi))))
                  go_ret
                  exact ⟨by first | rfl | (simp [errW_none, errW_some] <;> rfl) | (simp [*, errW_none, errW_some] <;> rfl), by repeat (first | (with_reducible first | exact HI0.out | apply IsS53.alloc | apply IsS53.drewN | apply IsS53.drew | apply IsS53.set_0 | apply IsS53.set_1) | exact HI0.out), by repeat (first | (with_reducible first | exact HB.out | apply below_alloc | apply pw_below_drewN | apply below_drew1 | refine below_set ?_ (IsS53.ge HI0.out)) | exact HB.out), by repeat (first | (with_reducible first | exact HK.out | apply KeepBut.set_ | apply keep_drewN | apply keep_drew | apply keep_alloc) | exact HK.out)⟩
                · rw [if_neg c16] at H
                  have c16b0 : decide ((wrap64 (Int.tdiv (rd s0_2 s0_1) 4)) ≤ x5_7) = false := decide_eq_false c16
                  clear c16
                  replace H := Option.bind_eq_some_iff.mp H
                  obtain ⟨⟨t162, t163, t164⟩, A190, H⟩ := H
                  replace H : (some (x6_7, t163, t164)) = some (r1, r2, r3) := H
                  have A19 := Aside0.mk A190
                  clear A190
                  simp only [Option.some.injEq, Prod.mk.injEq] at H
                  obtain ⟨rfl, rfl, rfl⟩ := H
                  go_wp2_with (first | (go_at_call 33; (with_reducible refine (wireglassref25_Coder_decode.calls g s0_0 s0_1 s0_2 x6_7 t162 t163 t164 w0 _ ?side1 ?side2 A19.out).mono ?_); (case side1 => repeat (first | (with_reducible first | exact HI0.out | apply IsS53.alloc | apply IsS53.drewN | apply IsS53.drew | apply IsS53.set_0 | apply IsS53.set_1) | exact HI0.out)); (case side2 => repeat (first | (with_reducible first | exact HB.out | apply below_alloc | apply pw_below_drewN | apply below_drew1 | refine below_set ?_ (IsS53.ge HI0.out)) | exact HB.out)); rintro e w20 ⟨rfl, hi, hb, hk⟩; have n0_ := Aside0.mk (KeepBut.trans (by repeat (first | (with_reducible first | exact HK.out | apply KeepBut.set_ | apply keep_drewN | apply keep_drew | apply keep_alloc) | exact HK.out)) hk (.inl rfl)); have n1_ := Aside0.mk (hb); have n2_ := Aside0.mk (hi); clear HK; clear HB; clear HI0; have HK := n0_; have HB := n1_; have HI0 := n2_; clear n0_ n1_ n2_; (try clear hb); (try clear hb2); (try clear hk); (try clear hi)))
                  repeat (go_quiet (first | (go_at_call 33; (with_reducible refine (wireglassref25_Coder_decode.calls g s0_0 s0_1 s0_2 x6_7 t162 t163 t164 w0 _ ?side1 ?side2 A19.out).mono ?_); (case side1 => repeat (first | (with_reducible first | exact HI0.out | apply IsS53.alloc | apply IsS53.drewN | apply IsS53.drew | apply IsS53.set_0 | apply IsS53.set_1) | exact HI0.out)); (case side2 => repeat (first | (with_reducible first | exact HB.out | apply below_alloc | apply pw_below_drewN | apply below_drew1 | refine below_set ?_ (IsS53.ge HI0.out)) | exact HB.out)); rintro e w20 ⟨rfl, hi, hb, hk⟩; have n0_ := Aside0.mk (KeepBut.trans (by repeat (first | (with_reducible first | exact HK.out | apply KeepBut.set_ | apply keep_drewN | apply keep_drew | apply keep_alloc) | exact HK.out)) hk (.inl rfl)); have n1_ := Aside0.mk (hb); have n2_ := Aside0.mk (hi); clear HK; clear HB; clear HI0; have HK := n0_; have HB := n1_; have HI0 := n2_; clear n0_ n1_ n2_; (try clear hb); (try clear hb2); (try clear hk); (try clear hi))); try go_wp2_with (first | (go_at_call 33; (with_reducible refine (wireglassref25_Coder_decode.calls g s0_0 s0_1 s0_2 x6_7 t162 t163 t164 w0 _ ?side1 ?side2 A19.out).mono ?_); (case side1 => repeat (first | (with_reducible first | exact HI0.out | apply IsS53.alloc | apply IsS53.drewN | apply IsS53.drew | apply IsS53.set_0 | apply IsS53.set_1) | exact HI0.out)); (case side2 => repeat (first | (with_reducible first | exact HB.out | apply below_alloc | apply pw_below_drewN | apply below_drew1 | refine below_set ?_ (IsS53.ge HI0.out)) | exact HB.out)); rintro e w20 ⟨rfl, hi, hb, hk⟩; have n0_ := Aside0.mk (KeepBut.trans (by repeat (first | (with_reducible first | exact HK.out | apply KeepBut.set_ | apply keep_drewN | apply keep_drew | apply keep_alloc) | exact HK.out)) hk (.inl rfl)); have n1_ := Aside0.mk (hb); have n2_ := Aside0.mk (hi); clear HK; clear HB; clear HI0; have HK := n0_; have HB := n1_; have HI0 := n2_; clear n0_ n1_ n2_; (try clear hb); (try clear hb2); (try clear hk); (try clear hi))))
                  go_ret
                  exact ⟨by first | rfl | (simp [errW_none, errW_some] <;> rfl) | (simp [*, errW_none, errW_some] <;> rfl), by repeat (first | (with_reducible first | exact HI0.out | apply IsS53.alloc | apply IsS53.drewN | apply IsS53.drew | apply IsS53.set_0 | apply IsS53.set_1) | exact HI0.out), by repeat (first | (with_reducible first | exact HB.out | apply below_alloc | apply pw_below_drewN | apply below_drew1 | refine below_set ?_ (IsS53.ge HI0.out)) | exact HB.out), by repeat (first | (with_reducible first | exact HK.out | apply KeepBut.set_ | apply keep_drewN | apply keep_drew | apply keep_alloc) | exact HK.out)⟩
    · rw [if_neg c4] at H
      exact absurd H (by simp)
  · rw [if_neg c3] at H
    exact absurd H (by simp)

/-! ### wireglassref25_Coder_Code: function 11 -/
def wireglassref25_Coder_Code.f (k : Nat) (s0_0 : Int) (s0_1 : Int) (s0_2 : List Int) (a1 : Int) : Option (Int × Int × Int × Int) := (wireglassref25_isSample.f a1).bind fun t165 => (if t165 = true then ((wireglassref25_Coder_code.f k s0_0 s0_1 s0_2 a1).bind fun bt166 => (some (bt166.1, 0, bt166.2.1, bt166.2.2))) else (some (0, 1, s0_0, s0_1)))
theorem wireglassref25_Coder_Code.mono : ∀ a0 a1 a2 a3 k, LeO (wireglassref25_Coder_Code.f k a0 a1 a2 a3) (wireglassref25_Coder_Code.f (k + 1) a0 a1 a2 a3) := by
  intro a0 a1 a2 a3 k
  unfold wireglassref25_Coder_Code.f
  repeat' first
      | (with_reducible exact wireglassref25_Coder_code.mono _ _ _ _ _)
      | (with_reducible exact LeO.refl _)
      | (with_reducible exact LeO.none _)
      | (with_reducible refine LeO.ite ?_ ?_)
      | (with_reducible refine LeO.bind ?_ (fun _ => ?_))
      | exact wireglassref25_Coder_code.mono _ _ _ _ _
      | exact LeO.none _
      | refine LeO.ite ?_ ?_
      | refine LeO.bind ?_ (fun _ => ?_)
set_option maxHeartbeats 8000000 in
set_option maxRecDepth 100000 in
theorem wireglassref25_Coder_Code.calls (k : Nat) (g : Nat) (s0_0 : Int) (s0_1 : Int) (s0_2 : List Int) (a1 : Int) (r1 : Int) (r2 : Int) (r3 : Int) (r4 : Int) (w0 w : World) (hI : IsS53 w0 w g s0_0 s0_1 s0_2) (hB : Below w0.heap.size w0 w) (h : wireglassref25_Coder_Code.f k s0_0 s0_1 s0_2 a1 = some (r1, r2, r3, r4)) :
    Calls Try.prog 11 #[.pointer (some ⟨g, 0, none⟩), .int .i64 a1] w fun e w' => e = .returned (.tuple #[.int .i64 r1, .int .i64 r2]) ∧ IsS53 w0 w' g r3 r4 s0_2 ∧ Below w0.heap.size w0 w' ∧ KeepBut w w' g none := by
  have HI0 := Aside0.mk hI
  have HK := Aside0.mk (KeepBut.refl w g none)
  have HL := Aside0.mk hB.size
  clear hI
  have HW0 := Aside0.mk hB.size
  have HB := Aside0.mk hB
  clear hB
  have H : ((wireglassref25_isSample.f a1).bind fun t165 => (if t165 = true then ((wireglassref25_Coder_code.f k s0_0 s0_1 s0_2 a1).bind fun bt166 => (some (bt166.1, 0, bt166.2.1, bt166.2.2))) else (some (0, 1, s0_0, s0_1)))) = some (r1, r2, r3, r4) := h
  clear h
  replace H := Option.bind_eq_some_iff.mp H
  obtain ⟨t165, A30, H⟩ := H
  replace H : (if t165 = true then ((wireglassref25_Coder_code.f k s0_0 s0_1 s0_2 a1).bind fun bt166 => (some (bt166.1, 0, bt166.2.1, bt166.2.2))) else (some (0, 1, s0_0, s0_1))) = some (r1, r2, r3, r4) := H
  have A3 := Aside0.mk A30
  clear A30
  by_cases c4 : t165 = true
  · subst c4
    have H1 : ((wireglassref25_Coder_code.f k s0_0 s0_1 s0_2 a1).bind fun bt166 => (some (bt166.1, 0, bt166.2.1, bt166.2.2))) = some (r1, r2, r3, r4) := by rw [if_pos rfl] at H; exact H
    clear H
    have H := H1
    clear H1
    replace H := Option.bind_eq_some_iff.mp H
    obtain ⟨⟨t166, t167, t168⟩, A50, H⟩ := H
    replace H : (some (t166, 0, t167, t168)) = some (r1, r2, r3, r4) := H
    have A5 := Aside0.mk A50
    clear A50
    simp only [Option.some.injEq, Prod.mk.injEq] at H
    obtain ⟨rfl, rfl, rfl, rfl⟩ := H
    go_enter Try.func11, Try.ntmps11
    go_wp2_with (first | ((with_reducible refine gate_callee (f := 31) rfl ?_); refine goesL_ (some 7) rfl rfl Try.func31 (by kernel_rfl) rfl #[.int .i64 a1] rfl (by (try simp only [List.map_toArray, List.map_cons, List.map_nil]); first | done | rfl | (simp only [List.length_drop, List.length_take]; rfl)) ?_; (with_reducible refine (wireglassref25_isSample.calls a1 true _ A3.out).mono ?_); rintro e w' ⟨rfl, ⟨nd, rfl⟩⟩; refine ⟨_, rfl, ?_⟩) | ((with_reducible refine gate_callee (f := 32) rfl ?_); refine goesL_ (some 11) rfl rfl Try.func32 (by kernel_rfl) rfl #[.pointer (some ⟨g, 0, none⟩), .int .i64 a1] rfl (by (try simp only [List.map_toArray, List.map_cons, List.map_nil]); first | done | rfl | (simp only [List.length_drop, List.length_take]; rfl)) ?_; (with_reducible refine (wireglassref25_Coder_code.calls k g s0_0 s0_1 s0_2 a1 t166 t167 t168 w0 _ ?side1 ?side2 A5.out).mono ?_); (case side1 => repeat (first | (with_reducible first | exact HI0.out | apply IsS53.alloc | apply IsS53.drewN | apply IsS53.drew | apply IsS53.set_0 | apply IsS53.set_1) | exact HI0.out)); (case side2 => repeat (first | (with_reducible first | exact HB.out | apply below_alloc | apply pw_below_drewN | apply below_drew1 | refine below_set ?_ (IsS53.ge HI0.out)) | exact HB.out)); rintro e w6 ⟨rfl, hi, hb, hk⟩; refine ⟨_, rfl, ?_⟩; have n0_ := Aside0.mk (KeepBut.trans (by repeat (first | (with_reducible first | exact HK.out | apply KeepBut.set_ | apply keep_drewN | apply keep_drew | apply keep_alloc) | exact HK.out)) hk (.inl rfl)); have n1_ := Aside0.mk (hb); have n2_ := Aside0.mk (hi); clear HK; clear HB; clear HI0; have HK := n0_; have HB := n1_; have HI0 := n2_; clear n0_ n1_ n2_; (try clear hb); (try clear hb2); (try clear hk); (try clear hi)))
    go_ret2
    exact ⟨by first | rfl | (simp [errW_none, errW_some] <;> rfl) | (simp [*, errW_none, errW_some] <;> rfl), by repeat (first | (with_reducible first | exact HI0.out | apply IsS53.alloc | apply IsS53.drewN | apply IsS53.drew | apply IsS53.set_0 | apply IsS53.set_1) | exact HI0.out), by repeat (first | (with_reducible first | exact HB.out | apply below_alloc | apply pw_below_drewN | apply below_drew1 | refine below_set ?_ (IsS53.ge HI0.out)) | exact HB.out), by repeat (first | (with_reducible first | exact HK.out | apply KeepBut.set_ | apply keep_drewN | apply keep_drew | apply keep_alloc) | exact HK.out)⟩
  · replace c4 := Bool.eq_false_iff.mpr c4
    subst c4
    have H1 : (some (0, 1, s0_0, s0_1)) = some (r1, r2, r3, r4) := by rw [if_neg (show ¬ (false = true) by decide)] at H; exact H
    clear H
    have H := H1
    clear H1
    simp only [Option.some.injEq, Prod.mk.injEq] at H
    obtain ⟨rfl, rfl, rfl, rfl⟩ := H
    go_enter Try.func11, Try.ntmps11
    go_wp2_with (first | ((with_reducible refine gate_callee (f := 31) rfl ?_); refine goesL_ (some 7) rfl rfl Try.func31 (by kernel_rfl) rfl #[.int .i64 a1] rfl (by (try simp only [List.map_toArray, List.map_cons, List.map_nil]); first | done | rfl | (simp only [List.length_drop, List.length_take]; rfl)) ?_; (with_reducible refine (wireglassref25_isSample.calls a1 false _ A3.out).mono ?_); rintro e w' ⟨rfl, ⟨nd, rfl⟩⟩; refine ⟨_, rfl, ?_⟩))
    go_ret2
    exact ⟨by first | rfl | (simp [errW_none, errW_some] <;> rfl) | (simp [*, errW_none, errW_some] <;> rfl), by repeat (first | (with_reducible first | exact HI0.out | apply IsS53.alloc | apply IsS53.drewN | apply IsS53.drew | apply IsS53.set_0 | apply IsS53.set_1) | exact HI0.out), by repeat (first | (with_reducible first | exact HB.out | apply below_alloc | apply pw_below_drewN | apply below_drew1 | refine below_set ?_ (IsS53.ge HI0.out)) | exact HB.out), by repeat (first | (with_reducible first | exact HK.out | apply KeepBut.set_ | apply keep_drewN | apply keep_drew | apply keep_alloc) | exact HK.out)⟩

theorem wireglassref25_isSample.vin' {x : Int} {r : Bool} (h : vIn x = r) : wireglassref25_isSample.f x = some r := by
  rw [← h]
  unfold wireglassref25_isSample.f vIn
  by_cases c : x ≥ -32768
  · rw [if_pos c]; congr 1; have c' : -32768 ≤ x := c; simp [c']
  · rw [if_neg c]; congr 1; symm; rw [decide_eq_false_iff_not]; omega
def vE (t d : Int) : Int :=
  if d ≥ t then (if d - t ≥ t / 2 then (if d - t - t / 2 ≥ t / 4 then 7 else 6) else (if d - t ≥ t / 4 then 5 else 4))
  else (if d ≥ t / 2 then (if d - t / 2 ≥ t / 4 then 3 else 2) else (if d ≥ t / 4 then 1 else 0))
theorem vE_bd (t d : Int) : 0 ≤ vE t d ∧ vE t d ≤ 7 := by
  unfold vE
  repeat' split
  all_goals omega
theorem vCode_step {p k t' d c b : Int} {m : Nat} (hk0 : 0 ≤ k) (hk1 : k ≤ 88) (hb0 : 0 < b) (hb1 : b ≤ 4) (hd0 : 0 ≤ d) (hd1 : d ≤ 70000) (ht0 : 0 ≤ t') (ht1 : t' ≤ 100000) :
    voice_Coder_Code.l0 (m + 1) t' d c b p k (vStepsL 89) = if d ≥ t' then voice_Coder_Code.l0 m (rd (vStepsL 89) k * b / 8) (d - t') (Go.bits .or .i64 c b) (b / 2) p k (vStepsL 89) else voice_Coder_Code.l0 m (rd (vStepsL 89) k * b / 8) d c (b / 2) p k (vStepsL 89) := by
  have ht := vStep_bd k hk0 hk1
  have hl : k < ((vStepsL 89).length : Int) := by rw [vStepsL_length]; omega
  obtain ⟨t, et⟩ : ∃ t, rd (vStepsL 89) k = t := ⟨_, rfl⟩
  have h1 : 0 ≤ t * b := Int.mul_nonneg (by omega) (by omega)
  have h2 : t * b ≤ 100000 * 4 := Int.mul_le_mul (by omega) hb1 (by omega) (by omega)
  rw [voice_Coder_Code.l0, if_pos hb0, if_pos hk0, if_pos hl, if_pos hk0, if_pos hl, et, Hand.w64 (n := t * b) (by omega) (by omega), Int.tdiv_eq_ediv_of_nonneg h1, Hand.w64 (n := t * b / 8) (by omega) (by omega), Hand.w64 (n := d - t') (by omega) (by omega)]
theorem vCode_end {p k t' d c : Int} {m : Nat} (hk0 : 0 ≤ k) (hk1 : k ≤ 88) (hp0 : -32768 ≤ p) (hp1 : p ≤ 32767) (hc0 : 0 ≤ c) (hc1 : c < 16) :
    voice_Coder_Code.l0 (m + 1) t' d c 0 p k (vStepsL 89) = some (c, 0, vP p (rd (vStepsL 89) k) c, vK k c) := by
  rw [voice_Coder_Code.l0, if_neg (by decide)]
  unfold voice_Coder_decode.f
  rw [if_pos (vOk_steps hk0 hk1 hc0 hc1 hp0 hp1), Option.bind_some]
theorem vCode_bits {p k d c : Int} (hk0 : 0 ≤ k) (hk1 : k ≤ 88) (hp0 : -32768 ≤ p) (hp1 : p ≤ 32767) (hd0 : 0 ≤ d) (hd1 : d ≤ 70000) (hc : c = 0 ∨ c = 8) :
    voice_Coder_Code.j0 6 (rd (vStepsL 89) k) d c p k (vStepsL 89) = some (c + vE (rd (vStepsL 89) k) d, 0, vP p (rd (vStepsL 89) k) (c + vE (rd (vStepsL 89) k) d), vK k (c + vE (rd (vStepsL 89) k) d)) := by
  have ht := vStep_bd k hk0 hk1
  obtain ⟨t, et⟩ : ∃ t, rd (vStepsL 89) k = t := ⟨_, rfl⟩
  have e2 : t * 4 / 8 = t / 2 := by omega
  have e1 : t * 2 / 8 = t / 4 := by omega
  rw [et] at ht ⊢
  have end_ : ∀ (t' d' c' : Int), 0 ≤ c' → c' < 16 → voice_Coder_Code.l0 2 t' d' c' (1 / 2) p k (vStepsL 89) = some (c', 0, vP p t c', vK k c') := fun t' d' c' h0 h1 => by
    rw [show (1 / 2 : Int) = 0 by decide, vCode_end hk0 hk1 hp0 hp1 h0 h1, et]
  rw [voice_Coder_Code.j0, vCode_step hk0 hk1 (by decide) (by decide) hd0 hd1 ht.1 ht.2, et, e2, show (4 / 2 : Int) = 2 by decide]
  unfold vE
  rcases hc with rfl | rfl <;>
  · by_cases a : d ≥ t
    · rw [if_pos a, if_pos a, vCode_step hk0 hk1 (by decide) (by decide) (by omega) (by omega) (by omega) (by omega), et, e1, show (2 / 2 : Int) = 1 by decide]
      by_cases b : d - t ≥ t / 2
      · rw [if_pos b, if_pos b, vCode_step hk0 hk1 (by decide) (by decide) (by omega) (by omega) (by omega) (by omega)]
        by_cases c : d - t - t / 2 ≥ t / 4
        · rw [if_pos c, if_pos c, end_ _ _ _ (by decide) (by decide)]; rfl
        · rw [if_neg c, if_neg c, end_ _ _ _ (by decide) (by decide)]; rfl
      · rw [if_neg b, if_neg b, vCode_step hk0 hk1 (by decide) (by decide) (by omega) (by omega) (by omega) (by omega)]
        by_cases c : d - t ≥ t / 4
        · rw [if_pos c, if_pos c, end_ _ _ _ (by decide) (by decide)]; rfl
        · rw [if_neg c, if_neg c, end_ _ _ _ (by decide) (by decide)]; rfl
    · rw [if_neg a, if_neg a, vCode_step hk0 hk1 (by decide) (by decide) (by omega) (by omega) (by omega) (by omega), et, e1, show (2 / 2 : Int) = 1 by decide]
      by_cases b : d ≥ t / 2
      · rw [if_pos b, if_pos b, vCode_step hk0 hk1 (by decide) (by decide) (by omega) (by omega) (by omega) (by omega)]
        by_cases c : d - t / 2 ≥ t / 4
        · rw [if_pos c, if_pos c, end_ _ _ _ (by decide) (by decide)]; rfl
        · rw [if_neg c, if_neg c, end_ _ _ _ (by decide) (by decide)]; rfl
      · rw [if_neg b, if_neg b, vCode_step hk0 hk1 (by decide) (by decide) (by omega) (by omega) (by omega) (by omega)]
        by_cases c : d ≥ t / 4
        · rw [if_pos c, if_pos c, end_ _ _ _ (by decide) (by decide)]; rfl
        · rw [if_neg c, if_neg c, end_ _ _ _ (by decide) (by decide)]; rfl
/-- What a coder makes of a sample: the code, no error, and where it stands then. -/
def vCoded (p k x : Int) : Int × Int × Int :=
  let t := rd (vStepsL 89) k
  let c := if x - p < 0 then 8 + vE t (-(x - p)) else 0 + vE t (x - p)
  (c, vP p t c, vK k c)
theorem vCode_is {p k x : Int} (hk0 : 0 ≤ k) (hk1 : k ≤ 88) (hp0 : -32768 ≤ p) (hp1 : p ≤ 32767) (hx : vIn x = true) :
    voice_Coder_Code.f 6 p k (vStepsL 89) x = some ((vCoded p k x).1, 0, (vCoded p k x).2) := by
  have hl : k < ((vStepsL 89).length : Int) := by rw [vStepsL_length]; omega
  have hx' := of_decide_eq_true hx
  unfold voice_Coder_Code.f vCoded
  rw [voice_isSample.vin' hx, Option.bind_some, if_pos rfl, if_pos hk0, if_pos hl, Hand.w64 (n := x - p) (by omega) (by omega)]
  by_cases c : x - p < 0
  · rw [if_pos c, Hand.w64 (n := -(x - p)) (by omega) (by omega), vCode_bits hk0 hk1 hp0 hp1 (by omega) (by omega) (.inr rfl)]
    simp only [if_pos c]
  · rw [if_neg c, vCode_bits hk0 hk1 hp0 hp1 (by omega) (by omega) (.inl rfl)]
    simp only [if_neg c]
theorem vCode_none {p k x : Int} (hx : vIn x = false) : voice_Coder_Code.f 6 p k (vStepsL 89) x = some (0, 1, p, k) := by
  unfold voice_Coder_Code.f
  rw [voice_isSample.vin' hx, Option.bind_some, if_neg (by decide)]
theorem rCode_dec {p k c : Int} (hk0 : 0 ≤ k) (hk1 : k ≤ 88) (hp0 : -32768 ≤ p) (hp1 : p ≤ 32767) (hc0 : 0 ≤ c) (hc1 : c < 16) :
    wireglassref25_Coder_decode.f p k (vStepsL 89) c = some (vP p (rd (vStepsL 89) k) c, vP p (rd (vStepsL 89) k) c, vK k c) := by
  unfold wireglassref25_Coder_decode.f; rw [if_pos (vOk_steps hk0 hk1 hc0 hc1 hp0 hp1)]
theorem rCode_bits {p k d c : Int} (hk0 : 0 ≤ k) (hk1 : k ≤ 88) (hp0 : -32768 ≤ p) (hp1 : p ≤ 32767) (hd0 : 0 ≤ d) (hd1 : d ≤ 70000) (hc : c = 0 ∨ c = 8) :
    wireglassref25_Coder_code.j0 2 d c (rd (vStepsL 89) k) p k (vStepsL 89) = some (c + vE (rd (vStepsL 89) k) d, vP p (rd (vStepsL 89) k) (c + vE (rd (vStepsL 89) k) d), vK k (c + vE (rd (vStepsL 89) k) d)) := by
  have ht := vStep_bd k hk0 hk1
  obtain ⟨t, et⟩ : ∃ t, rd (vStepsL 89) k = t := ⟨_, rfl⟩
  have dec : ∀ c : Int, 0 ≤ c → c < 16 → wireglassref25_Coder_decode.f p k (vStepsL 89) c = some (vP p t c, vP p t c, vK k c) := fun c h0 h1 => by rw [rCode_dec hk0 hk1 hp0 hp1 h0 h1, et]
  rw [et] at ht ⊢
  have d2 : wrap64 (Int.tdiv t 2) = t / 2 := by rw [Int.tdiv_eq_ediv_of_nonneg ht.1, Hand.w64 (by omega) (by omega)]
  have d4 : wrap64 (Int.tdiv t 4) = t / 4 := by rw [Int.tdiv_eq_ediv_of_nonneg ht.1, Hand.w64 (by omega) (by omega)]
  have w1 : wrap64 (d - t) = d - t := Hand.w64 (by omega) (by omega)
  have w2 : wrap64 (d - t / 2) = d - t / 2 := Hand.w64 (by omega) (by omega)
  have w3 : wrap64 (d - t - t / 2) = d - t - t / 2 := Hand.w64 (by omega) (by omega)
  have s4 : wrap64 (c + 4) = c + 4 := Hand.w64 (by omega) (by omega)
  unfold vE
  by_cases a : d ≥ t
  · have s2 : wrap64 (c + 4 + 2) = c + 6 := by rw [Hand.w64 (by omega) (by omega)]; omega
    have s3 : wrap64 (c + 6 + 1) = c + 7 := by rw [Hand.w64 (by omega) (by omega)]; omega
    have s1 : wrap64 (c + 4 + 1) = c + 5 := by rw [Hand.w64 (by omega) (by omega)]; omega
    rw [wireglassref25_Coder_code.j0, if_pos a, if_pos a, wireglassref25_Coder_code.j1, d2, d4, w1, s4]
    by_cases b : d - t ≥ t / 2
    · rw [if_pos b, if_pos b, w3, s2]
      by_cases e : d - t - t / 2 ≥ t / 4
      · rw [if_pos e, if_pos e, s3, dec _ (by omega) (by omega)]; rfl
      · rw [if_neg e, if_neg e, dec _ (by omega) (by omega)]; rfl
    · rw [if_neg b, if_neg b]
      by_cases e : d - t ≥ t / 4
      · rw [if_pos e, if_pos e, s1, dec _ (by omega) (by omega)]; rfl
      · rw [if_neg e, if_neg e, dec _ (by omega) (by omega)]; rfl
  · have s2 : wrap64 (c + 2) = c + 2 := Hand.w64 (by omega) (by omega)
    have s3 : wrap64 (c + 2 + 1) = c + 3 := by rw [Hand.w64 (by omega) (by omega)]; omega
    have s1 : wrap64 (c + 1) = c + 1 := Hand.w64 (by omega) (by omega)
    rw [wireglassref25_Coder_code.j0, if_neg a, if_neg a, wireglassref25_Coder_code.j1, d2, d4]
    by_cases b : d ≥ t / 2
    · rw [if_pos b, if_pos b, w2, s2]
      by_cases e : d - t / 2 ≥ t / 4
      · rw [if_pos e, if_pos e, s3, dec _ (by omega) (by omega)]; rfl
      · rw [if_neg e, if_neg e, dec _ (by omega) (by omega)]; rfl
    · rw [if_neg b, if_neg b]
      by_cases e : d ≥ t / 4
      · rw [if_pos e, if_pos e, s1, dec _ (by omega) (by omega)]; rfl
      · rw [if_neg e, if_neg e, dec _ (by omega) (by omega), show c + 0 = c by omega]; rfl
theorem rCode_is {p k x : Int} (hk0 : 0 ≤ k) (hk1 : k ≤ 88) (hp0 : -32768 ≤ p) (hp1 : p ≤ 32767) (hx : vIn x = true) :
    wireglassref25_Coder_code.f 2 p k (vStepsL 89) x = some (vCoded p k x) := by
  have hl : k < ((vStepsL 89).length : Int) := by rw [vStepsL_length]; omega
  have hx' := of_decide_eq_true hx
  unfold wireglassref25_Coder_code.f vCoded
  rw [if_pos hk0, if_pos hl, Hand.w64 (n := x - p) (by omega) (by omega)]
  by_cases c : x - p < 0
  · rw [if_pos c, Hand.w64 (n := -(x - p)) (by omega) (by omega), rCode_bits hk0 hk1 hp0 hp1 (by omega) (by omega) (.inr rfl)]
    simp only [if_pos c]
  · rw [if_neg c, rCode_bits hk0 hk1 hp0 hp1 (by omega) (by omega) (.inl rfl)]
    simp only [if_neg c]
theorem rCodeE_is {p k x : Int} (hk0 : 0 ≤ k) (hk1 : k ≤ 88) (hp0 : -32768 ≤ p) (hp1 : p ≤ 32767) (hx : vIn x = true) :
    wireglassref25_Coder_Code.f 2 p k (vStepsL 89) x = some ((vCoded p k x).1, 0, (vCoded p k x).2) := by
  unfold wireglassref25_Coder_Code.f
  rw [wireglassref25_isSample.vin' hx, Option.bind_some, if_pos rfl, rCode_is hk0 hk1 hp0 hp1 hx]; rfl
theorem rCodeE_none {p k x : Int} (hx : vIn x = false) : wireglassref25_Coder_Code.f 2 p k (vStepsL 89) x = some (0, 1, p, k) := by
  unfold wireglassref25_Coder_Code.f
  rw [wireglassref25_isSample.vin' hx, Option.bind_some, if_neg (by decide)]
theorem vCoded_bd (p k x : Int) : (0 ≤ (vCoded p k x).1 ∧ (vCoded p k x).1 < 16) ∧ (-32768 ≤ (vCoded p k x).2.1 ∧ (vCoded p k x).2.1 ≤ 32767) ∧ 0 ≤ (vCoded p k x).2.2 ∧ (vCoded p k x).2.2 ≤ 88 := by
  refine ⟨?_, vP_bd _ _ _, vK_bd _ _⟩
  unfold vCoded
  have := vE_bd (rd (vStepsL 89) k) (-(x - p))
  have := vE_bd (rd (vStepsL 89) k) (x - p)
  simp only
  split <;> omega

/-! ### voice_Coder_Decode: function 12 -/
def voice_Coder_Decode.f (s0_0 : Int) (s0_1 : Int) (s0_2 : List Int) (a1 : Int) : Option (Int × Int × Int × Int) := if a1 < 0 then (some (0, 1, s0_0, s0_1)) else (if a1 > 15 then (some (0, 1, s0_0, s0_1)) else ((voice_Coder_decode.f s0_0 s0_1 s0_2 a1).bind fun bt169 => (some (bt169.1, 0, bt169.2.1, bt169.2.2))))
set_option maxHeartbeats 8000000 in
set_option maxRecDepth 100000 in
theorem voice_Coder_Decode.calls (g : Nat) (s0_0 : Int) (s0_1 : Int) (s0_2 : List Int) (a1 : Int) (r1 : Int) (r2 : Int) (r3 : Int) (r4 : Int) (w0 w : World) (hI : IsS51 w0 w g s0_0 s0_1 s0_2) (hB : Below w0.heap.size w0 w) (h : voice_Coder_Decode.f s0_0 s0_1 s0_2 a1 = some (r1, r2, r3, r4)) :
    Calls Try.prog 12 #[.pointer (some ⟨g, 0, none⟩), .int .i64 a1] w fun e w' => e = .returned (.tuple #[.int .i64 r1, .int .i64 r2]) ∧ IsS51 w0 w' g r3 r4 s0_2 ∧ Below w0.heap.size w0 w' ∧ KeepBut w w' g none := by
  have HI0 := Aside0.mk hI
  have HK := Aside0.mk (KeepBut.refl w g none)
  have HL := Aside0.mk hB.size
  clear hI
  have HW0 := Aside0.mk hB.size
  have HB := Aside0.mk hB
  clear hB
  have H : (if a1 < 0 then (some (0, 1, s0_0, s0_1)) else (if a1 > 15 then (some (0, 1, s0_0, s0_1)) else ((voice_Coder_decode.f s0_0 s0_1 s0_2 a1).bind fun bt169 => (some (bt169.1, 0, bt169.2.1, bt169.2.2))))) = some (r1, r2, r3, r4) := h
  clear h
  by_cases c3 : a1 < 0
  · rw [if_pos c3] at H
    have c3b0 : decide (a1 < 0) = true := decide_eq_true c3
    clear c3
    simp only [Option.some.injEq, Prod.mk.injEq] at H
    obtain ⟨rfl, rfl, rfl, rfl⟩ := H
    go_enter Try.func12, Try.ntmps12
    go_wp2
    go_ret2
    exact ⟨by first | rfl | (simp [errW_none, errW_some] <;> rfl) | (simp [*, errW_none, errW_some] <;> rfl), by repeat (first | (with_reducible first | exact HI0.out | apply IsS51.alloc | apply IsS51.drewN | apply IsS51.drew | apply IsS51.set_0 | apply IsS51.set_1) | exact HI0.out), by repeat (first | (with_reducible first | exact HB.out | apply below_alloc | apply pw_below_drewN | apply below_drew1 | refine below_set ?_ (IsS51.ge HI0.out)) | exact HB.out), by repeat (first | (with_reducible first | exact HK.out | apply KeepBut.set_ | apply keep_drewN | apply keep_drew | apply keep_alloc) | exact HK.out)⟩
  · rw [if_neg c3] at H
    have c3b0 : decide (a1 < 0) = false := decide_eq_false c3
    clear c3
    by_cases c4 : a1 > 15
    · rw [if_pos c4] at H
      have c4b0 : decide (15 < a1) = true := decide_eq_true c4
      clear c4
      simp only [Option.some.injEq, Prod.mk.injEq] at H
      obtain ⟨rfl, rfl, rfl, rfl⟩ := H
      go_enter Try.func12, Try.ntmps12
      go_wp2
      go_ret2
      exact ⟨by first | rfl | (simp [errW_none, errW_some] <;> rfl) | (simp [*, errW_none, errW_some] <;> rfl), by repeat (first | (with_reducible first | exact HI0.out | apply IsS51.alloc | apply IsS51.drewN | apply IsS51.drew | apply IsS51.set_0 | apply IsS51.set_1) | exact HI0.out), by repeat (first | (with_reducible first | exact HB.out | apply below_alloc | apply pw_below_drewN | apply below_drew1 | refine below_set ?_ (IsS51.ge HI0.out)) | exact HB.out), by repeat (first | (with_reducible first | exact HK.out | apply KeepBut.set_ | apply keep_drewN | apply keep_drew | apply keep_alloc) | exact HK.out)⟩
    · rw [if_neg c4] at H
      have c4b0 : decide (15 < a1) = false := decide_eq_false c4
      clear c4
      replace H := Option.bind_eq_some_iff.mp H
      obtain ⟨⟨t169, t170, t171⟩, A50, H⟩ := H
      replace H : (some (t169, 0, t170, t171)) = some (r1, r2, r3, r4) := H
      have A5 := Aside0.mk A50
      clear A50
      simp only [Option.some.injEq, Prod.mk.injEq] at H
      obtain ⟨rfl, rfl, rfl, rfl⟩ := H
      go_enter Try.func12, Try.ntmps12
      go_wp2_with (first | ((with_reducible refine gate_callee (f := 30) rfl ?_); refine goesL_ (some 18) rfl rfl Try.func30 (by kernel_rfl) rfl #[.pointer (some ⟨g, 0, none⟩), .int .i64 a1] rfl (by (try simp only [List.map_toArray, List.map_cons, List.map_nil]); first | done | rfl | (simp only [List.length_drop, List.length_take]; rfl)) ?_; (with_reducible refine (voice_Coder_decode.calls g s0_0 s0_1 s0_2 a1 t169 t170 t171 w0 _ ?side1 ?side2 A5.out).mono ?_); (case side1 => repeat (first | (with_reducible first | exact HI0.out | apply IsS51.alloc | apply IsS51.drewN | apply IsS51.drew | apply IsS51.set_0 | apply IsS51.set_1) | exact HI0.out)); (case side2 => repeat (first | (with_reducible first | exact HB.out | apply below_alloc | apply pw_below_drewN | apply below_drew1 | refine below_set ?_ (IsS51.ge HI0.out)) | exact HB.out)); rintro e w6 ⟨rfl, hi, hb, hk⟩; refine ⟨_, rfl, ?_⟩; have n0_ := Aside0.mk (KeepBut.trans (by repeat (first | (with_reducible first | exact HK.out | apply KeepBut.set_ | apply keep_drewN | apply keep_drew | apply keep_alloc) | exact HK.out)) hk (.inl rfl)); have n1_ := Aside0.mk (hb); have n2_ := Aside0.mk (hi); clear HK; clear HB; clear HI0; have HK := n0_; have HB := n1_; have HI0 := n2_; clear n0_ n1_ n2_; (try clear hb); (try clear hb2); (try clear hk); (try clear hi)))
      go_ret2
      exact ⟨by first | rfl | (simp [errW_none, errW_some] <;> rfl) | (simp [*, errW_none, errW_some] <;> rfl), by repeat (first | (with_reducible first | exact HI0.out | apply IsS51.alloc | apply IsS51.drewN | apply IsS51.drew | apply IsS51.set_0 | apply IsS51.set_1) | exact HI0.out), by repeat (first | (with_reducible first | exact HB.out | apply below_alloc | apply pw_below_drewN | apply below_drew1 | refine below_set ?_ (IsS51.ge HI0.out)) | exact HB.out), by repeat (first | (with_reducible first | exact HK.out | apply KeepBut.set_ | apply keep_drewN | apply keep_drew | apply keep_alloc) | exact HK.out)⟩

/-! ### wireglassref25_Coder_Decode: function 13 -/
def wireglassref25_Coder_Decode.f (s0_0 : Int) (s0_1 : Int) (s0_2 : List Int) (a1 : Int) : Option (Int × Int × Int × Int) := if a1 < 0 then (some (0, 1, s0_0, s0_1)) else (if a1 > 15 then (some (0, 1, s0_0, s0_1)) else ((wireglassref25_Coder_decode.f s0_0 s0_1 s0_2 a1).bind fun bt172 => (some (bt172.1, 0, bt172.2.1, bt172.2.2))))
set_option maxHeartbeats 8000000 in
set_option maxRecDepth 100000 in
theorem wireglassref25_Coder_Decode.calls (g : Nat) (s0_0 : Int) (s0_1 : Int) (s0_2 : List Int) (a1 : Int) (r1 : Int) (r2 : Int) (r3 : Int) (r4 : Int) (w0 w : World) (hI : IsS53 w0 w g s0_0 s0_1 s0_2) (hB : Below w0.heap.size w0 w) (h : wireglassref25_Coder_Decode.f s0_0 s0_1 s0_2 a1 = some (r1, r2, r3, r4)) :
    Calls Try.prog 13 #[.pointer (some ⟨g, 0, none⟩), .int .i64 a1] w fun e w' => e = .returned (.tuple #[.int .i64 r1, .int .i64 r2]) ∧ IsS53 w0 w' g r3 r4 s0_2 ∧ Below w0.heap.size w0 w' ∧ KeepBut w w' g none := by
  have HI0 := Aside0.mk hI
  have HK := Aside0.mk (KeepBut.refl w g none)
  have HL := Aside0.mk hB.size
  clear hI
  have HW0 := Aside0.mk hB.size
  have HB := Aside0.mk hB
  clear hB
  have H : (if a1 < 0 then (some (0, 1, s0_0, s0_1)) else (if a1 > 15 then (some (0, 1, s0_0, s0_1)) else ((wireglassref25_Coder_decode.f s0_0 s0_1 s0_2 a1).bind fun bt172 => (some (bt172.1, 0, bt172.2.1, bt172.2.2))))) = some (r1, r2, r3, r4) := h
  clear h
  by_cases c3 : a1 < 0
  · rw [if_pos c3] at H
    have c3b0 : decide (a1 < 0) = true := decide_eq_true c3
    clear c3
    simp only [Option.some.injEq, Prod.mk.injEq] at H
    obtain ⟨rfl, rfl, rfl, rfl⟩ := H
    go_enter Try.func13, Try.ntmps13
    go_wp2
    go_ret2
    exact ⟨by first | rfl | (simp [errW_none, errW_some] <;> rfl) | (simp [*, errW_none, errW_some] <;> rfl), by repeat (first | (with_reducible first | exact HI0.out | apply IsS53.alloc | apply IsS53.drewN | apply IsS53.drew | apply IsS53.set_0 | apply IsS53.set_1) | exact HI0.out), by repeat (first | (with_reducible first | exact HB.out | apply below_alloc | apply pw_below_drewN | apply below_drew1 | refine below_set ?_ (IsS53.ge HI0.out)) | exact HB.out), by repeat (first | (with_reducible first | exact HK.out | apply KeepBut.set_ | apply keep_drewN | apply keep_drew | apply keep_alloc) | exact HK.out)⟩
  · rw [if_neg c3] at H
    have c3b0 : decide (a1 < 0) = false := decide_eq_false c3
    clear c3
    by_cases c4 : a1 > 15
    · rw [if_pos c4] at H
      have c4b0 : decide (15 < a1) = true := decide_eq_true c4
      clear c4
      simp only [Option.some.injEq, Prod.mk.injEq] at H
      obtain ⟨rfl, rfl, rfl, rfl⟩ := H
      go_enter Try.func13, Try.ntmps13
      go_wp2
      go_ret2
      exact ⟨by first | rfl | (simp [errW_none, errW_some] <;> rfl) | (simp [*, errW_none, errW_some] <;> rfl), by repeat (first | (with_reducible first | exact HI0.out | apply IsS53.alloc | apply IsS53.drewN | apply IsS53.drew | apply IsS53.set_0 | apply IsS53.set_1) | exact HI0.out), by repeat (first | (with_reducible first | exact HB.out | apply below_alloc | apply pw_below_drewN | apply below_drew1 | refine below_set ?_ (IsS53.ge HI0.out)) | exact HB.out), by repeat (first | (with_reducible first | exact HK.out | apply KeepBut.set_ | apply keep_drewN | apply keep_drew | apply keep_alloc) | exact HK.out)⟩
    · rw [if_neg c4] at H
      have c4b0 : decide (15 < a1) = false := decide_eq_false c4
      clear c4
      replace H := Option.bind_eq_some_iff.mp H
      obtain ⟨⟨t172, t173, t174⟩, A50, H⟩ := H
      replace H : (some (t172, 0, t173, t174)) = some (r1, r2, r3, r4) := H
      have A5 := Aside0.mk A50
      clear A50
      simp only [Option.some.injEq, Prod.mk.injEq] at H
      obtain ⟨rfl, rfl, rfl, rfl⟩ := H
      go_enter Try.func13, Try.ntmps13
      go_wp2_with (first | ((with_reducible refine gate_callee (f := 33) rfl ?_); refine goesL_ (some 14) rfl rfl Try.func33 (by kernel_rfl) rfl #[.pointer (some ⟨g, 0, none⟩), .int .i64 a1] rfl (by (try simp only [List.map_toArray, List.map_cons, List.map_nil]); first | done | rfl | (simp only [List.length_drop, List.length_take]; rfl)) ?_; (with_reducible refine (wireglassref25_Coder_decode.calls g s0_0 s0_1 s0_2 a1 t172 t173 t174 w0 _ ?side1 ?side2 A5.out).mono ?_); (case side1 => repeat (first | (with_reducible first | exact HI0.out | apply IsS53.alloc | apply IsS53.drewN | apply IsS53.drew | apply IsS53.set_0 | apply IsS53.set_1) | exact HI0.out)); (case side2 => repeat (first | (with_reducible first | exact HB.out | apply below_alloc | apply pw_below_drewN | apply below_drew1 | refine below_set ?_ (IsS53.ge HI0.out)) | exact HB.out)); rintro e w6 ⟨rfl, hi, hb, hk⟩; refine ⟨_, rfl, ?_⟩; have n0_ := Aside0.mk (KeepBut.trans (by repeat (first | (with_reducible first | exact HK.out | apply KeepBut.set_ | apply keep_drewN | apply keep_drew | apply keep_alloc) | exact HK.out)) hk (.inl rfl)); have n1_ := Aside0.mk (hb); have n2_ := Aside0.mk (hi); clear HK; clear HB; clear HI0; have HK := n0_; have HB := n1_; have HI0 := n2_; clear n0_ n1_ n2_; (try clear hb); (try clear hb2); (try clear hk); (try clear hi)))
      go_ret2
      exact ⟨by first | rfl | (simp [errW_none, errW_some] <;> rfl) | (simp [*, errW_none, errW_some] <;> rfl), by repeat (first | (with_reducible first | exact HI0.out | apply IsS53.alloc | apply IsS53.drewN | apply IsS53.drew | apply IsS53.set_0 | apply IsS53.set_1) | exact HI0.out), by repeat (first | (with_reducible first | exact HB.out | apply below_alloc | apply pw_below_drewN | apply below_drew1 | refine below_set ?_ (IsS53.ge HI0.out)) | exact HB.out), by repeat (first | (with_reducible first | exact HK.out | apply KeepBut.set_ | apply keep_drewN | apply keep_drew | apply keep_alloc) | exact HK.out)⟩

/-! ### voice_Coder_State: function 14 -/
def voice_Coder_State.f (s0_0 : Int) (s0_1 : Int) (s0_2 : List Int) : Option (Int × Int × Int × Int) := some (s0_0, s0_1, s0_0, s0_1)
set_option maxHeartbeats 8000000 in
set_option maxRecDepth 100000 in
theorem voice_Coder_State.calls (g : Nat) (s0_0 : Int) (s0_1 : Int) (s0_2 : List Int) (r1 : Int) (r2 : Int) (r3 : Int) (r4 : Int) (w0 w : World) (hI : IsS51 w0 w g s0_0 s0_1 s0_2) (hB : Below w0.heap.size w0 w) (h : voice_Coder_State.f s0_0 s0_1 s0_2 = some (r1, r2, r3, r4)) :
    Calls Try.prog 14 #[.pointer (some ⟨g, 0, none⟩)] w fun e w' => e = .returned (.tuple #[.int .i64 r1, .int .i64 r2]) ∧ IsS51 w0 w' g r3 r4 s0_2 ∧ Below w0.heap.size w0 w' ∧ KeepBut w w' g none := by
  have HI0 := Aside0.mk hI
  have HK := Aside0.mk (KeepBut.refl w g none)
  have HL := Aside0.mk hB.size
  clear hI
  have HW0 := Aside0.mk hB.size
  have HB := Aside0.mk hB
  clear hB
  have H : (some (s0_0, s0_1, s0_0, s0_1)) = some (r1, r2, r3, r4) := h
  clear h
  simp only [Option.some.injEq, Prod.mk.injEq] at H
  obtain ⟨rfl, rfl, rfl, rfl⟩ := H
  obtain ⟨ASz2_2, cSz2_2, HGz2, hgz2, HSz2_2⟩ := HI0.out
  have hcz2_0 := cellS51_0 HGz2
  have hcz2_1 := cellS51_1 HGz2
  have hcz2_2 := cellS51_2 HGz2
  have hfz2_0 := blk_frozen HGz2 0
  have hfz2_1 := blk_frozen HGz2 1
  clear HGz2 hgz2
  go_enter Try.func14, Try.ntmps14
  go_wp2
  repeat (go_quiet (fail); try go_wp2)
  go_ret2
  exact ⟨by first | rfl | (simp [errW_none, errW_some] <;> rfl) | (simp [*, errW_none, errW_some] <;> rfl), by repeat (first | (with_reducible first | exact HI0.out | apply IsS51.alloc | apply IsS51.drewN | apply IsS51.drew | apply IsS51.set_0 | apply IsS51.set_1) | exact HI0.out), by repeat (first | (with_reducible first | exact HB.out | apply below_alloc | apply pw_below_drewN | apply below_drew1 | refine below_set ?_ (IsS51.ge HI0.out)) | exact HB.out), by repeat (first | (with_reducible first | exact HK.out | apply KeepBut.set_ | apply keep_drewN | apply keep_drew | apply keep_alloc) | exact HK.out)⟩

/-! ### wireglassref25_Coder_State: function 15 -/
def wireglassref25_Coder_State.f (s0_0 : Int) (s0_1 : Int) (s0_2 : List Int) : Option (Int × Int × Int × Int) := some (s0_0, s0_1, s0_0, s0_1)
set_option maxHeartbeats 8000000 in
set_option maxRecDepth 100000 in
theorem wireglassref25_Coder_State.calls (g : Nat) (s0_0 : Int) (s0_1 : Int) (s0_2 : List Int) (r1 : Int) (r2 : Int) (r3 : Int) (r4 : Int) (w0 w : World) (hI : IsS53 w0 w g s0_0 s0_1 s0_2) (hB : Below w0.heap.size w0 w) (h : wireglassref25_Coder_State.f s0_0 s0_1 s0_2 = some (r1, r2, r3, r4)) :
    Calls Try.prog 15 #[.pointer (some ⟨g, 0, none⟩)] w fun e w' => e = .returned (.tuple #[.int .i64 r1, .int .i64 r2]) ∧ IsS53 w0 w' g r3 r4 s0_2 ∧ Below w0.heap.size w0 w' ∧ KeepBut w w' g none := by
  have HI0 := Aside0.mk hI
  have HK := Aside0.mk (KeepBut.refl w g none)
  have HL := Aside0.mk hB.size
  clear hI
  have HW0 := Aside0.mk hB.size
  have HB := Aside0.mk hB
  clear hB
  have H : (some (s0_0, s0_1, s0_0, s0_1)) = some (r1, r2, r3, r4) := h
  clear h
  simp only [Option.some.injEq, Prod.mk.injEq] at H
  obtain ⟨rfl, rfl, rfl, rfl⟩ := H
  obtain ⟨ASz2_2, cSz2_2, HGz2, hgz2, HSz2_2⟩ := HI0.out
  have hcz2_0 := cellS53_0 HGz2
  have hcz2_1 := cellS53_1 HGz2
  have hcz2_2 := cellS53_2 HGz2
  have hfz2_0 := blk_frozen HGz2 0
  have hfz2_1 := blk_frozen HGz2 1
  clear HGz2 hgz2
  go_enter Try.func15, Try.ntmps15
  go_wp2
  repeat (go_quiet (fail); try go_wp2)
  go_ret2
  exact ⟨by first | rfl | (simp [errW_none, errW_some] <;> rfl) | (simp [*, errW_none, errW_some] <;> rfl), by repeat (first | (with_reducible first | exact HI0.out | apply IsS53.alloc | apply IsS53.drewN | apply IsS53.drew | apply IsS53.set_0 | apply IsS53.set_1) | exact HI0.out), by repeat (first | (with_reducible first | exact HB.out | apply below_alloc | apply pw_below_drewN | apply below_drew1 | refine below_set ?_ (IsS53.ge HI0.out)) | exact HB.out), by repeat (first | (with_reducible first | exact HK.out | apply KeepBut.set_ | apply keep_drewN | apply keep_drew | apply keep_alloc) | exact HK.out)⟩

end Go.Proofs.Ytphkkdjinehhoaa.G
