/- Laid by a program of this repo over the translation: each Go function as a plain Lean function with the proof that the call comes to its answers, or a statement's row out of these; conditions: the hypotheses of each theorem. -/
import Derived.Test.YtcinmodpfdehpaaJx0
import Derived.Test.YtcinmodpfdehpaaJx3
namespace Go.Proofs.Ytcinmodpfdehpaa.J
open Go.RowKit Go.Proofs.YtcinmodpfdehpaaW.PrintWords Go.Proofs.YtcinmodpfdehpaaW.PrintLast Go.Proofs.YtcinmodpfdehpaaW.PrintMore
attribute [local go_sem] max2_int min2_int max_two min_two max_three min_three max_four min_four   -- for this text's walks alone
set_option linter.unusedVariables false
set_option linter.unusedSimpArgs false

/-! ### voice_numbers: function 17 -/
def voice_numbers.l0 : Nat → List (S39) → List Int → Int → List (S39) → Int → Int → Option (List Int)
  | 0, _, _, _, _, _, _ => none
  | k + 1, x0, x3, x4, x8, x9, x10 => if x10 < x9 then (if 0 ≤ x10 then (if x10 < (x8.length : Int) then (if x10 > 0 then (if 0 < (x0.length : Int) then ((voice_near.f (wrap64 (((rd_T39 x8 x10).f0) - (wrap64 (((rd_T39 x0 0).f0) + x4)))) 65536).bind fun t186 => (if x3.length < 17592186044416 then (voice_numbers.l0 k x0 (x3 ++ [wrap64 (x4 + t186)]) (mx x4 (wrap64 (x4 + t186))) x8 x9 (wrap64 (x10 + 1))) else (none))) else (none)) else (if x3.length < 17592186044416 then (voice_numbers.l0 k x0 (x3 ++ [0]) (mx x4 0) x8 x9 (wrap64 (x10 + 1))) else (none))) else (none)) else (none)) else (some x3)
def voice_numbers.f (k : Nat) (l0 : List (S39)) : Option (List Int) := voice_numbers.l0 k l0 ([] : List Int) 0 l0 (l0.length : Int) 0
theorem voice_numbers.mono_l : ∀ k, (∀ y0 y1 y2 y3 y4 y5, LeO (voice_numbers.l0 k y0 y1 y2 y3 y4 y5) (voice_numbers.l0 (k + 1) y0 y1 y2 y3 y4 y5))
  | 0 => fun _ _ _ _ _ _ r h => by simp [voice_numbers.l0] at h
  | k + 1 => by
    have ih0 := voice_numbers.mono_l k
    · intro y0 y1 y2 y3 y4 y5
      unfold voice_numbers.l0
      repeat' first
      | (with_reducible exact ih0 _ _ _ _ _ _)
      | (with_reducible exact LeO.refl _)
      | (with_reducible exact LeO.none _)
      | (with_reducible refine LeO.ite ?_ ?_)
      | (with_reducible refine LeO.bind ?_ (fun _ => ?_))
      | exact ih0 _ _ _ _ _ _
      | exact LeO.none _
      | refine LeO.ite ?_ ?_
      | refine LeO.bind ?_ (fun _ => ?_)
theorem voice_numbers.mono : ∀ a0 k, LeO (voice_numbers.f k a0) (voice_numbers.f (k + 1) a0) := by
  intro a0 k
  have ih0 := voice_numbers.mono_l k
  unfold voice_numbers.f
  repeat' first
      | (with_reducible exact ih0 _ _ _ _ _ _)
      | (with_reducible exact LeO.refl _)
      | (with_reducible exact LeO.none _)
      | (with_reducible refine LeO.ite ?_ ?_)
      | (with_reducible refine LeO.bind ?_ (fun _ => ?_))
      | exact ih0 _ _ _ _ _ _
      | exact LeO.none _
      | refine LeO.ite ?_ ?_
      | refine LeO.bind ?_ (fun _ => ?_)
def voice_numbers.T8 : Bool × List (List Nat × List Nat) := (true, [([], []), ([], []), ([1], [1]), ([], []), ([3], [3]), ([4], [4]), ([5], [5]), ([], []), ([6, 7], [6, 7]), ([2, 8], [2, 8]), ([9], [9]), ([0, 10], [0, 10]), ([11, 10, 0, 1, 2, 3, 4, 5, 6, 7, 8, 9, 10, 11], [11])])
def voice_numbers.B8 : List Nat := [0, 0, 2, 0, 8, 24, 56, 0, 248, 510, 1022, 2047, 4095]
theorem voice_numbers.tab8 : rtab .any (opsOf Try.f17 8) = voice_numbers.T8 := by kernel_rfl
theorem voice_numbers.bits8 : waitsOk voice_numbers.T8.2 voice_numbers.B8 = true := by kernel_rfl
set_option maxHeartbeats 8000000 in
set_option maxRecDepth 100000 in
theorem voice_numbers.calls (k : Nat) (A0 : Option Addr) (c0 : Nat) (l0 : List (S39)) (r : List Int) (w : World) (hr0 : Kd.C k39 w A0 l0.length l0) (hc0 : l0.length ≤ c0) (h : voice_numbers.f k l0 = some r) :
    Calls Try.prog 17 #[.slice A0 l0.length c0] w fun e w' => ∃ v0_ : Value, e = .returned (v0_) ∧ Kd.R (Kd.int .i64) 3 w' w.heap.size (fun _ => True) v0_ r ∧ Below w.heap.size w w' := by
  have hu39 := Try.underlying39
  have HR0 := Aside0.mk hr0
  have HC0 := Aside0.mk hc0
  clear hr0 hc0
  have HB := Aside0.mk (Below.refl w.heap.size w)
  have H : (voice_numbers.l0 k l0 ([] : List Int) 0 l0 (l0.length : Int) 0) = some r := h
  clear h
  have H' := Aside0.mk H
  clear H
  go_enter Try.func17, Try.ntmps17
  go_wp2
  go_loopg [3, 4, 10] k (fun kq v3 v4 v10 w' => ∃ (x3_1 : List Int) (x4_1 : Int) (x10_1 : Int), v4 = .int .i64 x4_1 ∧ v10 = .int .i64 x10_1 ∧ Aside0 (voice_numbers.l0 kq l0 x3_1 x4_1 l0 (l0.length : Int) x10_1 = some r) ∧ Aside0 (kq ≤ k) ∧ Aside0 (Kd.R (Kd.int .i64) 3 w' w.heap.size (fun _ => True) v3 x3_1) ∧ Aside0 (Below w.heap.size w w'))
  case atStart => exact ⟨(([] : List Int)), (0), (0), (by first | rfl | (simp; done) | (simp [*]; done)), (by first | rfl | (simp; done) | (simp [*]; done)), H', ⟨Nat.le_refl _⟩, ⟨by first | exact Kd.R_nil _ _ _ _ _ | exact Kd.N_nil _ _ _ _ _ | exact Kd.V_nil _ _ _ _ _ | exact Kd.Q_nil _ _ _ _ _ | exact Kd.S_nil _ _ _ _ _⟩, ⟨by repeat (first | (with_reducible first | exact HB.out | apply below_alloc | apply pw_below_drewN | apply below_drew1) | exact HB.out)⟩⟩
  case round =>
    clear H'
    try clear c1
    obtain ⟨x3_1, x4_1, x10_1, rfl, rfl, HA, HK1, HO_3, HB⟩ := hrel
    cases gk with
    | zero => exact absurd HA.out (by simp [voice_numbers.l0])
    | succ k1 =>
      have H := HA.out
      clear HA
      simp only [voice_numbers.l0] at H
      by_cases c2 : x10_1 < (l0.length : Int)
      · rw [if_pos c2] at H
        have c2b0 : decide (x10_1 < (l0.length : Int)) = true := decide_eq_true c2
        clear c2
        by_cases c3 : 0 ≤ x10_1
        · rw [if_pos c3] at H
          have c3b0 : decide (0 ≤ x10_1) = true := decide_eq_true c3
          clear c3
          by_cases c4 : x10_1 < (l0.length : Int)
          · rw [if_pos c4] at H
            have c4b0 : decide (x10_1 < (l0.length : Int)) = true := decide_eq_true c4
            clear c4
            by_cases c5 : x10_1 > 0
            · rw [if_pos c5] at H
              have c5b0 : decide (0 < x10_1) = true := decide_eq_true c5
              clear c5
              by_cases c6 : 0 < (l0.length : Int)
              · rw [if_pos c6] at H
                have c6b0 : decide (0 < (l0.length : Int)) = true := decide_eq_true c6
                have c6b1 : decide (0 < l0.length) = true := decide_eq_true (by omega)
                clear c6
                replace H := Option.bind_eq_some_iff.mp H
                obtain ⟨t186, A70, H⟩ := H
                replace H : (if x3_1.length < 17592186044416 then (voice_numbers.l0 k1 l0 (x3_1 ++ [wrap64 (x4_1 + t186)]) (mx x4_1 (wrap64 (x4_1 + t186))) l0 (l0.length : Int) (wrap64 (x10_1 + 1))) else (none)) = some r := H
                have A7 := Aside0.mk A70
                clear A70
                obtain ⟨ji8, hji8⟩ : ∃ j_ : Int, (mx x4_1 (wrap64 (x4_1 + t186))) = j_ := ⟨_, rfl⟩
                replace H : (if x3_1.length < 17592186044416 then (voice_numbers.l0 k1 l0 (x3_1 ++ [wrap64 (x4_1 + t186)]) ji8 l0 (l0.length : Int) (wrap64 (x10_1 + 1))) else (none)) = some r := by first | (rw [hji8] at H; exact H) | (simp only [hji8] at H ⊢; exact H)
                (try rw [hji8] at A7)
                have hji8_ : (if x4_1 < (wrap64 (x4_1 + t186)) then (wrap64 (x4_1 + t186)) else x4_1) = ji8 := hji8
                by_cases c9 : x3_1.length < 17592186044416
                · rw [if_pos c9] at H
                  have LMc9 := Aside0.mk c9
                  clear c9
                  obtain ⟨y187, hy187⟩ : ∃ y_ : List Int, y_ = (x3_1 ++ [wrap64 (x4_1 + t186)]) := ⟨_, rfl⟩
                  replace H : (voice_numbers.l0 k1 l0 y187 ji8 l0 (l0.length : Int) (wrap64 (x10_1 + 1))) = some r := by first | (rw [hy187]; with_reducible exact H) | (have H2_ := (Option.bind_some _ _).symm.trans H; rw [hy187]; with_reducible exact H2_) | (have H2_ := (Option.bind_some _ _).symm.trans H; with_reducible exact H2_) | with_reducible exact H | (rw [hy187]; exact H) | exact H
                  have Ny187 := Aside0.mk hy187
                  clear hy187
                  have H' := Aside0.mk H
                  clear H
                  have p183 : 0 ≤ (x10_1 : Int) := of_decide_eq_true (by first | (with_reducible assumption) | assumption)
                  have q183 : x10_1 < (l0.length : Int) := of_decide_eq_true (by first | (with_reducible assumption) | assumption)
                  obtain ⟨ad183, A183_3, c183_3, e183, hx183_0, hx183_1, hx183_2, hx183_3, hl183_3, hi183_3⟩ := at_T39 HR0.out x10_1 p183 q183
                  cases e183
                  replace hx183_0 := (HB.out.cell (World.block_lt_of_cell? w _ hx183_0)).trans hx183_0
                  replace hx183_1 := (HB.out.cell (World.block_lt_of_cell? w _ hx183_1)).trans hx183_1
                  replace hx183_2 := (HB.out.cell (World.block_lt_of_cell? w _ hx183_2)).trans hx183_2
                  replace hx183_3 := (HB.out.cell (World.block_lt_of_cell? w _ hx183_3)).trans hx183_3
                  have HR183_3 := Aside0.mk hi183_3
                  have HC183_3 := Aside0.mk hl183_3
                  clear hi183_3 hl183_3
                  replace p183 := eq_true p183
                  replace q183 := eq_true q183
                  try go_wp2_with (first | ((with_reducible refine gate_dst (N := 6) rfl ?_); refine box_event ?hg (N := 6) ?hd (cs := #[.int .i64 0, .int .i64 0, .int .i64 0, .slice none 0 0]) (t := 39) ?hr ?_; (case hd => rfl); (case hg => rfl); (case hr => first | (go_simp; done) | (go_simp; rfl)); intro gb184 hg w10 hbox hb; have n0_ := Aside0.mk (Kd.R_below (by (with_reducible repeat (first | apply Kd.R_alloc | apply Kd.R_drewN | apply Kd.R_drew)); exact HO_3.out) hb); have n1_ := Aside0.mk (below_step (by repeat (first | (with_reducible first | exact HB.out | apply below_alloc | apply pw_below_drewN | apply below_drew1) | exact HB.out)) hb); have n2_ := Aside0.mk (hbox); have n3_ := Aside0.mk ((by rw [hg]; exact (below_size (by repeat (first | (with_reducible first | exact HB.out | apply below_alloc | apply pw_below_drewN | apply below_drew1) | exact HB.out))) : w.heap.size ≤ gb184)); have n4_ := Aside0.mk ((by rw [hg]; exact (below_size (by repeat (first | (with_reducible first | exact HB.out | apply below_alloc | apply pw_below_drewN | apply below_drew1) | exact HB.out))) : w.heap.size ≤ gb184)); clear HO_3; clear HB; have HO_3 := n0_; have HB := n1_; have BK184 := n2_; have GW184 := n3_; have GE184 := n4_; clear n0_ n1_ n2_ n3_ n4_; clear hb hbox hg; have hcz11_0 : w10.cell? ⟨gb184, 0, none⟩ = some (.int .i64 0) := (blk_cell BK184.out 0).trans rfl; have hcz11_1 : w10.cell? ⟨gb184, 1, none⟩ = some (.int .i64 0) := (blk_cell BK184.out 1).trans rfl; have hcz11_2 : w10.cell? ⟨gb184, 2, none⟩ = some (.int .i64 0) := (blk_cell BK184.out 2).trans rfl; have hcz11_3 : w10.cell? ⟨gb184, 3, none⟩ = some (.slice none 0 0) := (blk_cell BK184.out 3).trans rfl; have hfz11_0 := blk_frozen BK184.out 0; have hfz11_1 := blk_frozen BK184.out 1; have hfz11_2 := blk_frozen BK184.out 2; have hfz11_3 := blk_frozen BK184.out 3))
                  have n0_ : Aside0 (Kd.R (Kd.int .i64) 3 ((((w10.setCell ⟨gb184, 0, none⟩ (.int .i64 ((rd_T39 l0 x10_1).f0))).setCell ⟨gb184, 1, none⟩ (.int .i64 ((rd_T39 l0 x10_1).f1))).setCell ⟨gb184, 2, none⟩ (.int .i64 ((rd_T39 l0 x10_1).f2))).setCell ⟨gb184, 3, none⟩ (.slice A183_3 ((rd_T39 l0 x10_1).f3).length c183_3)) w.heap.size (fun _ => True) u3 x3_1) := ⟨by (with_reducible repeat (first | apply Kd.R_alloc | apply Kd.R_drewN | apply Kd.R_drew)); exact Kd.R_mono (Kd.R_far (p := ⟨gb184, 3, none⟩) (Kd.R_far (p := ⟨gb184, 2, none⟩) (Kd.R_far (p := ⟨gb184, 1, none⟩) (Kd.R_far (p := ⟨gb184, 0, none⟩) (Kd.R_types HO_3.out BK184.out (by decide)) (fun _ hk => hk.2) (.int .i64 ((rd_T39 l0 x10_1).f0))) (fun _ hk => hk.2) (.int .i64 ((rd_T39 l0 x10_1).f1))) (fun _ hk => hk.2) (.int .i64 ((rd_T39 l0 x10_1).f2))) (fun _ hk => hk.2) (.slice A183_3 ((rd_T39 l0 x10_1).f3).length c183_3)) (fun _ hk => trivial)⟩
                  have n1_ : Aside0 (((((w10.setCell ⟨gb184, 0, none⟩ (.int .i64 ((rd_T39 l0 x10_1).f0))).setCell ⟨gb184, 1, none⟩ (.int .i64 ((rd_T39 l0 x10_1).f1))).setCell ⟨gb184, 2, none⟩ (.int .i64 ((rd_T39 l0 x10_1).f2))).setCell ⟨gb184, 3, none⟩ (.slice A183_3 ((rd_T39 l0 x10_1).f3).length c183_3)).heap[gb184]? = some (.cells #[.int .i64 ((rd_T39 l0 x10_1).f0), .int .i64 ((rd_T39 l0 x10_1).f1), .int .i64 ((rd_T39 l0 x10_1).f2), .slice A183_3 ((rd_T39 l0 x10_1).f3).length c183_3] 39 (0, 0))) := ⟨by (with_reducible repeat (first | refine blk_drewN ?_ _ | refine blk_drew ?_ | refine blk_alloc ?_ _)); refine blk_put (cs := #[.int .i64 ((rd_T39 l0 x10_1).f0), .int .i64 ((rd_T39 l0 x10_1).f1), .int .i64 ((rd_T39 l0 x10_1).f2), .slice none 0 0]) ?_ 3 _ rfl; (with_reducible repeat (first | refine blk_drewN ?_ _ | refine blk_drew ?_ | refine blk_alloc ?_ _)); refine blk_put (cs := #[.int .i64 ((rd_T39 l0 x10_1).f0), .int .i64 ((rd_T39 l0 x10_1).f1), .int .i64 0, .slice none 0 0]) ?_ 2 _ rfl; (with_reducible repeat (first | refine blk_drewN ?_ _ | refine blk_drew ?_ | refine blk_alloc ?_ _)); refine blk_put (cs := #[.int .i64 ((rd_T39 l0 x10_1).f0), .int .i64 0, .int .i64 0, .slice none 0 0]) ?_ 1 _ rfl; (with_reducible repeat (first | refine blk_drewN ?_ _ | refine blk_drew ?_ | refine blk_alloc ?_ _)); refine blk_put (cs := #[.int .i64 0, .int .i64 0, .int .i64 0, .slice none 0 0]) ?_ 0 _ rfl; (with_reducible repeat (first | refine blk_drewN ?_ _ | refine blk_drew ?_ | refine blk_alloc ?_ _)); exact BK184.out⟩
                  have n2_ : Aside0 (Below w.heap.size w ((((w10.setCell ⟨gb184, 0, none⟩ (.int .i64 ((rd_T39 l0 x10_1).f0))).setCell ⟨gb184, 1, none⟩ (.int .i64 ((rd_T39 l0 x10_1).f1))).setCell ⟨gb184, 2, none⟩ (.int .i64 ((rd_T39 l0 x10_1).f2))).setCell ⟨gb184, 3, none⟩ (.slice A183_3 ((rd_T39 l0 x10_1).f3).length c183_3))) := ⟨by repeat (first | (with_reducible first | exact HB.out | apply below_alloc | apply pw_below_drewN | apply below_drew1 | refine below_set ?_ GE184.out) | exact HB.out)⟩
                  (try clear HO_3)
                  (try clear BK184)
                  (try clear HB)
                  generalize ((((w10.setCell ⟨gb184, 0, none⟩ (.int .i64 ((rd_T39 l0 x10_1).f0))).setCell ⟨gb184, 1, none⟩ (.int .i64 ((rd_T39 l0 x10_1).f1))).setCell ⟨gb184, 2, none⟩ (.int .i64 ((rd_T39 l0 x10_1).f2))).setCell ⟨gb184, 3, none⟩ (.slice A183_3 ((rd_T39 l0 x10_1).f3).length c183_3)) = w12 at n0_ n1_ n2_ ⊢
                  have HO_3 := n0_
                  have BK184 := n1_
                  have HB := n2_
                  clear n0_ n1_ n2_
                  have n0_ := Aside0.mk (Kd.R_drew HO_3.out)
                  have n1_ := Aside0.mk (blk_drew BK184.out)
                  have n2_ := Aside0.mk (below_drew1 HB.out)
                  clear HO_3
                  clear BK184
                  clear HB
                  have HO_3 := n0_
                  have BK184 := n1_
                  have HB := n2_
                  clear n0_ n1_ n2_
                  have p185 : 0 ≤ (0 : Int) := (by omega)
                  have q185 : 0 < (l0.length : Int) := of_decide_eq_true (by first | (with_reducible assumption) | assumption)
                  obtain ⟨ad185, A185_3, c185_3, e185, hx185_0, hx185_1, hx185_2, hx185_3, hl185_3, hi185_3⟩ := at_T39 HR0.out 0 p185 q185
                  have hw185_3 := hx185_3
                  (try rw [show ((0 : Int)).toNat = 0 from rfl] at hw185_3)
                  (try rw [show 0 * 4 = 0 from rfl] at hw185_3)
                  (try rw [Addr.add_zero'] at hw185_3)
                  have hw185_2 := hx185_2
                  (try rw [show ((0 : Int)).toNat = 0 from rfl] at hw185_2)
                  (try rw [show 0 * 4 = 0 from rfl] at hw185_2)
                  (try rw [Addr.add_zero'] at hw185_2)
                  have hw185_1 := hx185_1
                  (try rw [show ((0 : Int)).toNat = 0 from rfl] at hw185_1)
                  (try rw [show 0 * 4 = 0 from rfl] at hw185_1)
                  (try rw [Addr.add_zero'] at hw185_1)
                  have hw185_0 := hx185_0
                  (try rw [show ((0 : Int)).toNat = 0 from rfl] at hw185_0)
                  (try rw [show 0 * 4 = 0 from rfl] at hw185_0)
                  (try rw [Addr.add_zero'] at hw185_0)
                  obtain rfl : ad183 = ad185 := (by injection e185)
                  have qi185 : (0 < l0.length) = True := eq_true (by omega)
                  (try rw [show ((0 : Int)).toNat = 0 from rfl] at hx185_0)
                  (try rw [show 0 * 4 = 0 from rfl] at hx185_0)
                  (try rw [Addr.add_zero'] at hx185_0)
                  (try rw [show ((0 : Int)).toNat = 0 from rfl] at hx185_1)
                  (try rw [show 0 * 4 = 0 from rfl] at hx185_1)
                  (try rw [Addr.add_zero'] at hx185_1)
                  (try rw [show ((0 : Int)).toNat = 0 from rfl] at hx185_2)
                  (try rw [show 0 * 4 = 0 from rfl] at hx185_2)
                  (try rw [Addr.add_zero'] at hx185_2)
                  (try rw [show ((0 : Int)).toNat = 0 from rfl] at hx185_3)
                  (try rw [show 0 * 4 = 0 from rfl] at hx185_3)
                  (try rw [Addr.add_zero'] at hx185_3)
                  replace hx185_0 := (HB.out.cell (World.block_lt_of_cell? w _ hx185_0)).trans hx185_0
                  replace hx185_1 := (HB.out.cell (World.block_lt_of_cell? w _ hx185_1)).trans hx185_1
                  replace hx185_2 := (HB.out.cell (World.block_lt_of_cell? w _ hx185_2)).trans hx185_2
                  replace hx185_3 := (HB.out.cell (World.block_lt_of_cell? w _ hx185_3)).trans hx185_3
                  have HR185_3 := Aside0.mk hi185_3
                  have HC185_3 := Aside0.mk hl185_3
                  clear hi185_3 hl185_3
                  replace p185 := eq_true p185
                  replace q185 := eq_true q185
                  refine start_ (n := 13) (S := fun w' => w'.cell? ⟨gb184, 0, none⟩ = some (.int .i64 ((rd_T39 l0 x10_1).f0)) ∧ w'.cell? ⟨gb184, 1, none⟩ = some (.int .i64 ((rd_T39 l0 x10_1).f1)) ∧ w'.cell? ⟨gb184, 2, none⟩ = some (.int .i64 ((rd_T39 l0 x10_1).f2)) ∧ w'.cell? ⟨gb184, 3, none⟩ = some (.slice A183_3 ((rd_T39 l0 x10_1).f3).length c183_3) ∧ w'.cell? ad183 = some (.int .i64 ((rd_T39 l0 0).f0)) ∧ w'.cell? ⟨ad183.block, ad183.off + 1, none⟩ = some (.int .i64 ((rd_T39 l0 0).f1)) ∧ w'.cell? ⟨ad183.block, ad183.off + 2, none⟩ = some (.int .i64 ((rd_T39 l0 0).f2)) ∧ w'.cell? ⟨ad183.block, ad183.off + 3, none⟩ = some (.slice A185_3 ((rd_T39 l0 0).f3).length c185_3)) (ds := []) #[false, false, false, false, false, false, false, false, false, false, false, false, false] (by kernel_rfl) rfl rfl ⟨(blk_cell BK184.out 0).trans rfl, (blk_cell BK184.out 1).trans rfl, (blk_cell BK184.out 2).trans rfl, (blk_cell BK184.out 3).trans rfl, ((HB.out.cell (World.block_lt_of_cell? w _ hw185_0)).trans hw185_0), ((HB.out.cell (World.block_lt_of_cell? w _ hw185_1)).trans hw185_1), ((HB.out.cell (World.block_lt_of_cell? w _ hw185_2)).trans hw185_2), ((HB.out.cell (World.block_lt_of_cell? w _ hw185_3)).trans hw185_3)⟩ (fun hHeld => ?_); refine with_tabW voice_numbers.tab8 voice_numbers.bits8 (fun HT_ HW_ => ?_)
                  generalize w12.drew = w13 at HO_3 BK184 HB HR185_3 hx185_0 hx185_1 hx185_2 hx185_3 hHeld ⊢
                  refine pure_ (i := 0) (N := some 17) (v := ?_) (a' := ?_) #[true, false, false, false, false, false, false, false, false, false, false, false, false] rfl rfl (any_of HT_.out (by kernel_rfl)) (fun _ _ _ h => h) (Or.inl ⟨by rfl, ?_⟩) ?_ ?_
                  rotate_left
                  · intro w'
                    go_simp
                    with_reducible rfl
                  rotate_left
                  · simp only [Act.put, List.setIfInBounds_toArray, List.set_cons_zero, List.set_cons_succ, i64_w, i32_w]
                    rfl
                  refine pure_ (i := 1) (N := some 18) (v := ?_) (a' := ?_) #[true, true, false, false, false, false, false, false, false, false, false, false, false] rfl rfl (any_of HT_.out (by kernel_rfl)) (fun _ _ _ h => h) (Or.inl ⟨by rfl, ?_⟩) ?_ ?_
                  rotate_left
                  · intro w'
                    go_simp
                    with_reducible rfl
                  rotate_left
                  · simp only [Act.put, List.setIfInBounds_toArray, List.set_cons_zero, List.set_cons_succ, i64_w, i32_w]
                    rfl
                  refine pure_ (i := 3) (N := some 20) (v := ?_) (a' := ?_) #[true, true, false, true, false, false, false, false, false, false, false, false, false] rfl rfl (any_of HT_.out (by kernel_rfl)) (fun _ _ _ h => h) (Or.inl ⟨by rfl, ?_⟩) ?_ ?_
                  rotate_left
                  · intro w'
                    go_simp
                    with_reducible rfl
                  rotate_left
                  · simp only [Act.put, List.setIfInBounds_toArray, List.set_cons_zero, List.set_cons_succ, i64_w, i32_w]
                    rfl
                  refine pure_ (i := 4) (N := some 21) (v := ?_) (a' := ?_) #[true, true, false, true, true, false, false, false, false, false, false, false, false] rfl rfl (any_of HT_.out (by kernel_rfl)) (fun _ _ _ h => h) (Or.inl ⟨by rfl, ?_⟩) ?_ ?_
                  rotate_left
                  · intro w'
                    go_simp
                    with_reducible rfl
                  rotate_left
                  · simp only [Act.put, List.setIfInBounds_toArray, List.set_cons_zero, List.set_cons_succ, i64_w, i32_w]
                    rfl
                  refine pure_ (i := 5) (N := some 22) (v := ?_) (a' := ?_) #[true, true, false, true, true, true, false, false, false, false, false, false, false] rfl rfl (any_of HT_.out (by kernel_rfl)) (fun _ _ _ h => h) (Or.inl ⟨by rfl, ?_⟩) ?_ ?_
                  rotate_left
                  · intro w'
                    go_simp
                    with_reducible rfl
                  rotate_left
                  · simp only [Act.put, List.setIfInBounds_toArray, List.set_cons_zero, List.set_cons_succ, i64_w, i32_w]
                    rfl
                  refine pure_ (i := 7) (N := some 24) (v := ?_) (a' := ?_) #[true, true, false, true, true, true, false, true, false, false, false, false, false] rfl rfl (any_of HT_.out (by kernel_rfl)) (fun _ _ _ h => h) (Or.inl ⟨by rfl, ?_⟩) ?_ ?_
                  rotate_left
                  · intro w'
                    go_simp
                    with_reducible rfl
                  rotate_left
                  · simp only [Act.put, List.setIfInBounds_toArray, List.set_cons_zero, List.set_cons_succ, i64_w, i32_w]
                    rfl
                  refine take_ (i := 2) (N := some 19) (v := ?_) (a' := ?_) #[true, true, true, true, true, true, false, true, false, false, false, false, false] rfl rfl (take_ofW HT_.out HW_.out (by kernel_rfl)) (fun _ _ _ h => h) (Or.inl ⟨by rfl, ?_⟩) hHeld ?_ ?_
                  rotate_left
                  · rintro w' ⟨s0, s1, s2, s3, s4, s5, s6, s7⟩
                    go_simp
                    with_reducible rfl
                  rotate_left
                  · simp only [Act.put, List.setIfInBounds_toArray, List.set_cons_zero, List.set_cons_succ, i64_w, i32_w]
                    rfl
                  refine take_ (i := 6) (N := some 23) (v := ?_) (a' := ?_) #[true, true, true, true, true, true, true, true, false, false, false, false, false] rfl rfl (take_ofW HT_.out HW_.out (by kernel_rfl)) (fun _ _ _ h => h) (Or.inl ⟨by rfl, ?_⟩) hHeld ?_ ?_
                  rotate_left
                  · rintro w' ⟨s0, s1, s2, s3, s4, s5, s6, s7⟩
                    go_simp
                    with_reducible rfl
                  rotate_left
                  · simp only [Act.put, List.setIfInBounds_toArray, List.set_cons_zero, List.set_cons_succ, i64_w, i32_w]
                    rfl
                  refine pure_ (i := 8) (N := some 25) (v := ?_) (a' := ?_) #[true, true, true, true, true, true, true, true, true, false, false, false, false] rfl rfl (any_of HT_.out (by kernel_rfl)) (fun _ _ _ h => h) (Or.inl ⟨by rfl, ?_⟩) ?_ ?_
                  rotate_left
                  · intro w'
                    go_simp
                    with_reducible rfl
                  rotate_left
                  · simp only [Act.put, List.setIfInBounds_toArray, List.set_cons_zero, List.set_cons_succ, i64_w, i32_w]
                    rfl
                  refine pure_ (i := 9) (N := some 26) (v := ?_) (a' := ?_) #[true, true, true, true, true, true, true, true, true, true, false, false, false] rfl rfl (any_of HT_.out (by kernel_rfl)) (fun _ _ _ h => h) (Or.inl ⟨by rfl, ?_⟩) ?_ ?_
                  rotate_left
                  · intro w'
                    go_simp
                    with_reducible rfl
                  rotate_left
                  · simp only [Act.put, List.setIfInBounds_toArray, List.set_cons_zero, List.set_cons_succ, i64_w, i32_w]
                    rfl
                  refine one_ (i := 10) (N := some 27) #[true, true, true, true, true, true, true, true, true, true, true, false, false] rfl rfl (one_of HT_.out (by kernel_rfl)) (by decide) (fun K hK => ?_)
                  refine goes_ Try.func26 (by kernel_rfl) rfl #[.int .i64 (wrap64 (((rd_T39 l0 x10_1).f0) - (wrap64 (((rd_T39 l0 0).f0) + x4_1)))), .int .i64 65536] (by rfl) rfl rfl (by (try simp only [List.map_toArray, List.map_cons, List.map_nil]); first | done | rfl | (simp only [List.length_drop, List.length_take]; rfl)) ?_
                  with_reducible refine (voice_near.calls (wrap64 (((rd_T39 l0 x10_1).f0) - (wrap64 (((rd_T39 l0 0).f0) + x4_1)))) 65536 t186 _ A7.out).mono ?_
                  rintro e w' ⟨rfl, ⟨nd, rfl⟩⟩
                  refine ⟨_, rfl, ?_⟩
                  refine hK.out _ _ ⟨(blk_cell BK184.out 0).trans rfl, (blk_cell BK184.out 1).trans rfl, (blk_cell BK184.out 2).trans rfl, (blk_cell BK184.out 3).trans rfl, ((HB.out.cell (World.block_lt_of_cell? w _ hw185_0)).trans hw185_0), ((HB.out.cell (World.block_lt_of_cell? w _ hw185_1)).trans hw185_1), ((HB.out.cell (World.block_lt_of_cell? w _ hw185_2)).trans hw185_2), ((HB.out.cell (World.block_lt_of_cell? w _ hw185_3)).trans hw185_3)⟩ (fun hHeld => ?_)
                  clear hK K
                  refine norm_ (a' := ?_) ?_ ?_
                  rotate_left
                  · show Act.put _ (some 27) _ = _
                    simp only [Act.put, List.setIfInBounds_toArray, List.set_cons_zero, List.set_cons_succ, i64_w, i32_w]
                    rfl
                  refine pure_ (i := 11) (N := some 28) (v := ?_) (a' := ?_) #[true, true, true, true, true, true, true, true, true, true, true, true, false] rfl rfl (any_of HT_.out (by kernel_rfl)) (fun _ _ _ h => h) (Or.inl ⟨by rfl, ?_⟩) ?_ ?_
                  rotate_left
                  · intro w'
                    go_simp
                    with_reducible rfl
                  rotate_left
                  · simp only [Act.put, List.setIfInBounds_toArray, List.set_cons_zero, List.set_cons_succ, i64_w, i32_w]
                    rfl
                  refine pure_ (i := 12) (N := some 7) (v := ?_) (a' := ?_) #[true, true, true, true, true, true, true, true, true, true, true, true, true] rfl rfl (any_of HT_.out (by kernel_rfl)) (fun _ _ _ h => h) (Or.inl ⟨by rfl, ?_⟩) ?_ ?_
                  rotate_left
                  · intro w'
                    go_simp
                    with_reducible rfl
                  rotate_left
                  · simp only [Act.put, List.setIfInBounds_toArray, List.set_cons_zero, List.set_cons_succ, i64_w, i32_w]
                    rfl
                  refine done_ (done_of HT_.out (by kernel_rfl)) ?_
                  try go_wp2_with (first | ((with_reducible refine gate_builtin (b := .append) (xs := #[.tmp 32, .tmp 34]) rfl ?_); at_builtin; refine Kd.R_append (Kd.int .i64) (w0 := w) w.heap.size rfl (.tmp 32) (.tmp 34) 26 3 (.int .i64 0) 8 rfl Try.underlying26 info3 rfl (by decide) (by omega) u3 x3_1 (wrap64 (x4_1 + t186)) [.int .i64 (wrap64 (x4_1 + t186))] (fun _ => True) (fun _ => False) rfl rfl ?aP (fun _ hk => hk.elim) ?aF ?aO ?aB ?aS ?aL ?_; (case aP => exact rfl); (case aB => exact (by repeat (first | (with_reducible first | exact HB.out | apply below_alloc | apply pw_below_drewN | apply below_drew1 | refine below_set ?_ GE184.out) | exact HB.out))); (case aF => exact (fun _ _ => trivial)); (case aO => exact (by (with_reducible repeat (first | apply Kd.R_alloc | apply Kd.R_drewN | apply Kd.R_drew)); exact HO_3.out)); (case aS => exact (below_size (by repeat (first | (with_reducible first | exact HB.out | apply below_alloc | apply pw_below_drewN | apply below_drew1 | refine below_set ?_ GE184.out) | exact HB.out)))); (case aL => have := LMc9.out; omega); intro v188 w14 ho hb hg hat; rw [← Ny187.out] at ho; have n0_ := Aside0.mk (blk_grown (g := gb184) (o := .cells #[.int .i64 ((rd_T39 l0 x10_1).f0), .int .i64 ((rd_T39 l0 x10_1).f1), .int .i64 ((rd_T39 l0 x10_1).f2), .slice A183_3 ((rd_T39 l0 x10_1).f3).length c183_3] 39 (0, 0)) (by (with_reducible repeat (first | refine blk_drewN ?_ _ | refine blk_drew ?_ | refine blk_alloc ?_ _)); exact BK184.out) hg (Kd.R_ne HO_3.out BK184.out (by decide))); have n1_ := Aside0.mk (hb); have n2_ := Aside0.mk (ho); clear BK184; clear HB; clear HO_3; have BK184 := n0_; have HB := n1_; have HO189 := n2_; clear n0_ n1_ n2_; clear ho hb hg hat))
                  go_roundg k1
                  case measure => have := HK1.out; omega
                  case rel => exact ⟨(y187), (ji8), (wrap64 (x10_1 + 1)), (by first | rfl | (simp; done) | (simp only [← hji8] <;> (first | rfl | simp)) | (simp [*]; done)), (by first | rfl | (simp; done) | (simp [*]; done)), H', ⟨by have := HK1.out; omega⟩, ⟨by (with_reducible repeat (first | apply Kd.R_alloc | apply Kd.R_drewN | apply Kd.R_drew)); exact HO189.out⟩, ⟨by repeat (first | (with_reducible first | exact HB.out | apply below_alloc | apply pw_below_drewN | apply below_drew1 | refine below_set ?_ GE184.out) | exact HB.out)⟩⟩
                · rw [if_neg c9] at H
                  exact absurd H (by simp)
              · rw [if_neg c6] at H
                exact absurd H (by simp)
            · rw [if_neg c5] at H
              have c5b0 : decide (0 < x10_1) = false := decide_eq_false c5
              clear c5
              obtain ⟨ji15, hji15⟩ : ∃ j_ : Int, (mx x4_1 0) = j_ := ⟨_, rfl⟩
              replace H : (if x3_1.length < 17592186044416 then (voice_numbers.l0 k1 l0 (x3_1 ++ [0]) ji15 l0 (l0.length : Int) (wrap64 (x10_1 + 1))) else (none)) = some r := by first | (rw [hji15] at H; exact H) | (simp only [hji15] at H ⊢; exact H)
              have hji15_ : (if x4_1 < 0 then 0 else x4_1) = ji15 := hji15
              by_cases c16 : x3_1.length < 17592186044416
              · rw [if_pos c16] at H
                have LMc16 := Aside0.mk c16
                clear c16
                obtain ⟨y190, hy190⟩ : ∃ y_ : List Int, y_ = (x3_1 ++ [0]) := ⟨_, rfl⟩
                replace H : (voice_numbers.l0 k1 l0 y190 ji15 l0 (l0.length : Int) (wrap64 (x10_1 + 1))) = some r := by first | (rw [hy190]; with_reducible exact H) | (have H2_ := (Option.bind_some _ _).symm.trans H; rw [hy190]; with_reducible exact H2_) | (have H2_ := (Option.bind_some _ _).symm.trans H; with_reducible exact H2_) | with_reducible exact H | (rw [hy190]; exact H) | exact H
                have Ny190 := Aside0.mk hy190
                clear hy190
                have H' := Aside0.mk H
                clear H
                have p183 : 0 ≤ (x10_1 : Int) := of_decide_eq_true (by first | (with_reducible assumption) | assumption)
                have q183 : x10_1 < (l0.length : Int) := of_decide_eq_true (by first | (with_reducible assumption) | assumption)
                obtain ⟨ad183, A183_3, c183_3, e183, hx183_0, hx183_1, hx183_2, hx183_3, hl183_3, hi183_3⟩ := at_T39 HR0.out x10_1 p183 q183
                cases e183
                replace hx183_0 := (HB.out.cell (World.block_lt_of_cell? w _ hx183_0)).trans hx183_0
                replace hx183_1 := (HB.out.cell (World.block_lt_of_cell? w _ hx183_1)).trans hx183_1
                replace hx183_2 := (HB.out.cell (World.block_lt_of_cell? w _ hx183_2)).trans hx183_2
                replace hx183_3 := (HB.out.cell (World.block_lt_of_cell? w _ hx183_3)).trans hx183_3
                have HR183_3 := Aside0.mk hi183_3
                have HC183_3 := Aside0.mk hl183_3
                clear hi183_3 hl183_3
                replace p183 := eq_true p183
                replace q183 := eq_true q183
                go_wp2_with (first | ((with_reducible refine gate_dst (N := 6) rfl ?_); refine box_event ?hg (N := 6) ?hd (cs := #[.int .i64 0, .int .i64 0, .int .i64 0, .slice none 0 0]) (t := 39) ?hr ?_; (case hd => rfl); (case hg => rfl); (case hr => first | (go_simp; done) | (go_simp; rfl)); intro gb184 hg w17 hbox hb; have n0_ := Aside0.mk (Kd.R_below (by (with_reducible repeat (first | apply Kd.R_alloc | apply Kd.R_drewN | apply Kd.R_drew)); exact HO_3.out) hb); have n1_ := Aside0.mk (below_step (by repeat (first | (with_reducible first | exact HB.out | apply below_alloc | apply pw_below_drewN | apply below_drew1) | exact HB.out)) hb); have n2_ := Aside0.mk (hbox); have n3_ := Aside0.mk ((by rw [hg]; exact (below_size (by repeat (first | (with_reducible first | exact HB.out | apply below_alloc | apply pw_below_drewN | apply below_drew1) | exact HB.out))) : w.heap.size ≤ gb184)); have n4_ := Aside0.mk ((by rw [hg]; exact (below_size (by repeat (first | (with_reducible first | exact HB.out | apply below_alloc | apply pw_below_drewN | apply below_drew1) | exact HB.out))) : w.heap.size ≤ gb184)); clear HO_3; clear HB; have HO_3 := n0_; have HB := n1_; have BK184 := n2_; have GW184 := n3_; have GE184 := n4_; clear n0_ n1_ n2_ n3_ n4_; clear hb hbox hg; have hcz18_0 : w17.cell? ⟨gb184, 0, none⟩ = some (.int .i64 0) := (blk_cell BK184.out 0).trans rfl; have hcz18_1 : w17.cell? ⟨gb184, 1, none⟩ = some (.int .i64 0) := (blk_cell BK184.out 1).trans rfl; have hcz18_2 : w17.cell? ⟨gb184, 2, none⟩ = some (.int .i64 0) := (blk_cell BK184.out 2).trans rfl; have hcz18_3 : w17.cell? ⟨gb184, 3, none⟩ = some (.slice none 0 0) := (blk_cell BK184.out 3).trans rfl; have hfz18_0 := blk_frozen BK184.out 0; have hfz18_1 := blk_frozen BK184.out 1; have hfz18_2 := blk_frozen BK184.out 2; have hfz18_3 := blk_frozen BK184.out 3) | ((with_reducible refine gate_builtin (b := .append) (xs := #[.tmp 32, .tmp 34]) rfl ?_); at_builtin; refine Kd.R_append (Kd.int .i64) (w0 := w) w.heap.size rfl (.tmp 32) (.tmp 34) 26 3 (.int .i64 0) 8 rfl Try.underlying26 info3 rfl (by decide) (by omega) u3 x3_1 0 [.int .i64 0] (fun _ => True) (fun _ => False) rfl (by first | (go_simp; done) | (go_simp; rfl)) ?aP (fun _ hk => hk.elim) ?aF ?aO ?aB ?aS ?aL ?_; (case aP => exact rfl); (case aB => exact (by repeat (first | (with_reducible first | exact HB.out | apply below_alloc | apply pw_below_drewN | apply below_drew1 | refine below_set ?_ GE184.out) | exact HB.out))); (case aF => exact (fun _ _ => trivial)); (case aO => exact (by (with_reducible repeat (first | apply Kd.R_alloc | apply Kd.R_drewN | apply Kd.R_drew)); exact Kd.R_mono (Kd.R_far (p := ⟨gb184, 3, none⟩) (Kd.R_far (p := ⟨gb184, 2, none⟩) (Kd.R_far (p := ⟨gb184, 1, none⟩) (Kd.R_far (p := ⟨gb184, 0, none⟩) (Kd.R_types HO_3.out BK184.out (by decide)) (fun _ hk => hk.2) (.int .i64 ((rd_T39 l0 x10_1).f0))) (fun _ hk => hk.2) (.int .i64 ((rd_T39 l0 x10_1).f1))) (fun _ hk => hk.2) (.int .i64 ((rd_T39 l0 x10_1).f2))) (fun _ hk => hk.2) (.slice A183_3 ((rd_T39 l0 x10_1).f3).length c183_3)) (fun _ hk => trivial))); (case aS => exact (below_size (by repeat (first | (with_reducible first | exact HB.out | apply below_alloc | apply pw_below_drewN | apply below_drew1 | refine below_set ?_ GE184.out) | exact HB.out)))); (case aL => have := LMc16.out; omega); intro v191 w19 ho hb hg hat; rw [← Ny190.out] at ho; have n0_ := Aside0.mk (blk_grown (g := gb184) (o := .cells #[.int .i64 ((rd_T39 l0 x10_1).f0), .int .i64 ((rd_T39 l0 x10_1).f1), .int .i64 ((rd_T39 l0 x10_1).f2), .slice A183_3 ((rd_T39 l0 x10_1).f3).length c183_3] 39 (0, 0)) (by (with_reducible repeat (first | refine blk_drewN ?_ _ | refine blk_drew ?_ | refine blk_alloc ?_ _)); refine blk_put (cs := #[.int .i64 ((rd_T39 l0 x10_1).f0), .int .i64 ((rd_T39 l0 x10_1).f1), .int .i64 ((rd_T39 l0 x10_1).f2), .slice none 0 0]) ?_ 3 _ rfl; (with_reducible repeat (first | refine blk_drewN ?_ _ | refine blk_drew ?_ | refine blk_alloc ?_ _)); refine blk_put (cs := #[.int .i64 ((rd_T39 l0 x10_1).f0), .int .i64 ((rd_T39 l0 x10_1).f1), .int .i64 0, .slice none 0 0]) ?_ 2 _ rfl; (with_reducible repeat (first | refine blk_drewN ?_ _ | refine blk_drew ?_ | refine blk_alloc ?_ _)); refine blk_put (cs := #[.int .i64 ((rd_T39 l0 x10_1).f0), .int .i64 0, .int .i64 0, .slice none 0 0]) ?_ 1 _ rfl; (with_reducible repeat (first | refine blk_drewN ?_ _ | refine blk_drew ?_ | refine blk_alloc ?_ _)); refine blk_put (cs := #[.int .i64 0, .int .i64 0, .int .i64 0, .slice none 0 0]) ?_ 0 _ rfl; (with_reducible repeat (first | refine blk_drewN ?_ _ | refine blk_drew ?_ | refine blk_alloc ?_ _)); exact BK184.out) hg (Kd.R_ne HO_3.out BK184.out (by decide))); have n1_ := Aside0.mk (hb); have n2_ := Aside0.mk (ho); clear BK184; clear HB; clear HO_3; have BK184 := n0_; have HB := n1_; have HO192 := n2_; clear n0_ n1_ n2_; clear ho hb hg hat))
                go_roundg k1
                case measure => have := HK1.out; omega
                case rel => exact ⟨(y190), (ji15), (wrap64 (x10_1 + 1)), (by first | rfl | (simp; done) | (simp only [← hji15] <;> (first | rfl | simp)) | (simp [*]; done)), (by first | rfl | (simp; done) | (simp [*]; done)), H', ⟨by have := HK1.out; omega⟩, ⟨by (with_reducible repeat (first | apply Kd.R_alloc | apply Kd.R_drewN | apply Kd.R_drew)); exact HO192.out⟩, ⟨by repeat (first | (with_reducible first | exact HB.out | apply below_alloc | apply pw_below_drewN | apply below_drew1 | refine below_set ?_ GE184.out) | exact HB.out)⟩⟩
              · rw [if_neg c16] at H
                exact absurd H (by simp)
          · rw [if_neg c4] at H
            exact absurd H (by simp)
        · rw [if_neg c3] at H
          exact absurd H (by simp)
      · rw [if_neg c2] at H
        have c2b0 : decide (x10_1 < (l0.length : Int)) = false := decide_eq_false c2
        clear c2
        obtain rfl := Option.some.inj H
        go_wp2
        go_ret
        exact ⟨_, by first | rfl | (simp [errW_none, errW_some] <;> rfl) | (simp [*, errW_none, errW_some] <;> rfl), by (with_reducible repeat (first | apply Kd.R_alloc | apply Kd.R_drewN | apply Kd.R_drew)); exact HO_3.out, by repeat (first | (with_reducible first | exact HB.out | apply below_alloc | apply pw_below_drewN | apply below_drew1) | exact HB.out)⟩

/-! ### voice_Lost: function 12 -/
-- EXT rounds=1 making=1
open Go.Maps in
theorem lk58 : Keyed Try.prog 3 := int_keyed Try.underlying3
theorem zero_bool (w : World) : (zeroValue 4).run Try.prog w = .ok (.bool false) w := by kernel_rfl
theorem plainElem_bool_inv {P : Program} {e : TypeId} (he : P.underlying e = some .bool) {v : Value} {z : DataW Unit × List MemPlace} (h : plainElem P e v = some z) : ∃ a, v = .bool a ∧ z = (.lit (.bool a), []) := by
  unfold plainElem at h
  rw [he] at h
  cases v <;> simp at h
  subst h
  exact ⟨_, rfl, rfl⟩
theorem look_bool {w : World} {B n : Nat} {D : DataW Unit} (h : w.ownsMap Try.prog 3 (plainElem Try.prog 4) B n D) {x : Int} (hx : (Lit.int .i64 x).wf = true) : ∃ b, (Instr.lookup 58 (.map (some B)) (.int .i64 x) false).run Try.prog w = .ok (.bool b) w ∧ D.atKey (.int .i64 x) (.lit (.bool false)) = .lit (.bool b) := by
  obtain ⟨v, ps, hrun, hv⟩ := h.lookup lk58 Try.underlying58 (zero_bool w) (plainElem_bool Try.underlying4 false) (Go.Maps.keyOf_int_mk Try.underlying3 hx)
  obtain ⟨b, rfl, hz⟩ := plainElem_bool_inv Try.underlying4 hv
  simp only [Prod.mk.injEq] at hz
  exact ⟨b, hrun, hz.1⟩
theorem ownsMap_below {w w' : World} {R : Value → Option (DataW Unit × List MemPlace)} {P : Program} {k : TypeId} {B n : Nat} {D : DataW Unit} (h : w.ownsMap P k R B n D) (hb : Below w.heap.size w w') : w'.ownsMap P k R B n D := by
  have hlt := h.lt
  obtain ⟨es, clock, hB, F, hs, hD⟩ := h
  exact ⟨es, clock, (hb.block B hlt).trans hB, F, hs, hD⟩
/-- What is told of numbers: how many were to come, came, and came late or twice. -/
def lostFrom : List Int → List Int → Int → Int → Int → Int × Int × Int × Int
  | [], _, t, c, l => (wrap64 (t + 1), c, l, 0)
  | n :: r, seen, t, c, l => lostFrom r (seen ++ [n]) (mx t n) (if 0 ≤ n ∧ ¬ n ∈ seen then wrap64 (c + 1) else c) (if n < t ∨ n ∈ seen then wrap64 (l + 1) else l)
def voice_Lost.f (k : Nat) (l0 : List S39) : Option (Int × Int × Int × Int) := (voice_asked.f l0 1).bind fun e => if e = 0 then (if (l0.length : Int) = 0 then some (0, 0, 0, 0) else (voice_numbers.f k l0).bind fun ns => some (lostFrom ns [] (-1) 0 0)) else some (0, 0, 0, e)
theorem voice_Lost.mono : ∀ a0 k, LeO (voice_Lost.f k a0) (voice_Lost.f (k + 1) a0) := by
  intro a0 k
  unfold voice_Lost.f
  refine LeO.bind (LeO.refl _) (fun e => ?_)
  refine LeO.ite (LeO.ite (LeO.refl _) (LeO.bind (voice_numbers.mono a0 k) (fun _ => LeO.refl _))) (LeO.refl _)
theorem wf_wrap (n : Int) : (Lit.int .i64 (wrap64 n)).wf = true := wrap64_wf n
/-- The numbers fit. -/
theorem numbers_wf : ∀ (k : Nat) (x0 : List S39) (x3 : List Int) (x4 : Int) (x8 : List S39) (x9 x10 : Int) (r : List Int), voice_numbers.l0 k x0 x3 x4 x8 x9 x10 = some r → (∀ n ∈ x3, (Lit.int .i64 n).wf = true) → ∀ n ∈ r, (Lit.int .i64 n).wf = true
  | 0, _, _, _, _, _, _, _, h, _ => by simp [voice_numbers.l0] at h
  | k + 1, x0, x3, x4, x8, x9, x10, r, h, h3 => by
    rw [voice_numbers.l0] at h
    have hs : ∀ y : Int, (Lit.int .i64 y).wf = true → ∀ n ∈ x3 ++ [y], (Lit.int .i64 n).wf = true := fun y hy n hn => by
      rcases List.mem_append.1 hn with hn | hn
      · exact h3 n hn
      · rw [List.mem_singleton.1 hn]; exact hy
    repeat' split at h
    all_goals first
      | (cases h; done)
      | (cases h; exact h3)
      | (obtain ⟨t, _, h⟩ := Option.bind_eq_some_iff.1 h; exact numbers_wf k _ _ _ _ _ _ _ h (hs _ (wf_wrap _)))
      | (obtain ⟨t, _, h⟩ := Option.bind_eq_some_iff.1 h; cases h; done)
      | exact numbers_wf k _ _ _ _ _ _ _ h (hs _ (by decide))
theorem results_tmp4 {fn : Func} {t u v x : Tmp} (h : fn.results = #[.tmp t, .tmp u, .tmp v, .tmp x]) (tmps : Array Value) (P : Program) (w : World) :
    (results fn tmps).run P w = .ok (.tuple #[tmps.getD t undef, tmps.getD u undef, tmps.getD v undef, tmps.getD x undef]) w := by
  simp [results, h]
set_option maxHeartbeats 4000000 in
set_option maxRecDepth 100000 in
theorem voice_Lost.calls (k : Nat) (A0 : Option Addr) (c0 : Nat) (l0 : List S39) (r1 r2 r3 r4 : Int) (w : World) (hr0 : Kd.C k39 w A0 l0.length l0) (hc0 : l0.length ≤ c0) (h : voice_Lost.f k l0 = some (r1, r2, r3, r4)) :
    Calls Try.prog 12 #[.slice A0 l0.length c0] w fun e w' => e = .returned (.tuple #[.int .i64 r1, .int .i64 r2, .int .i64 r3, .int .i64 r4]) ∧ Below w.heap.size w w' := by
  have HR0 := Aside0.mk hr0
  have HC0 := Aside0.mk hc0
  have hm := Kd.C_max hr0
  clear hr0 hc0
  obtain ⟨N, hN⟩ : ∃ N, l0.length = N := ⟨_, rfl⟩
  unfold voice_Lost.f at h
  obtain ⟨er, he, h⟩ := Option.bind_eq_some_iff.1 h
  have HN := Aside0.mk hN
  have HE := Aside0.mk he
  rw [hN] at h hm ⊢
  clear hN he
  have HASK : Aside0 (Calls Try.prog 16 #[.slice A0 N c0, .int .i64 1] w fun e w' => e = .returned (.int .i64 er) ∧ Below w.heap.size w w') := ⟨by rw [← HN.out]; exact voice_asked.calls A0 c0 l0 1 er w HR0.out HC0.out HE.out⟩
  by_cases q1 : er = 0
  · subst q1
    rw [if_pos rfl] at h
    by_cases q2 : (N : Int) = 0
    · rw [if_pos q2] at h
      cases h
      have e0 : N = 0 := by omega
      subst e0
      go_enter Try.func12, Try.ntmps12
      go_wp2_with (go_at_call 16; (with_reducible refine HASK.out.mono ?_); rintro e w1 ⟨rfl, hb⟩; have HB1 := Aside0.mk hb; clear hb)
      (try simp only [Exit.inBlock, Exit.then]); refine bodyPost_ret (results_tmp4 rfl _ _ _) rfl ?_
      exact ⟨rfl, HB1.out⟩
    rw [if_neg q2] at h
    obtain ⟨ns, hns, h⟩ := Option.bind_eq_some_iff.1 h
    have HR := Aside0.mk (Option.some.inj h)
    have HWF : Aside0 (∀ n ∈ ns, (Lit.int .i64 n).wf = true) := ⟨numbers_wf k _ _ _ _ _ _ _ hns (fun n hn => by simp at hn)⟩
    have HNS := Aside0.mk hns
    have b1 : ((N : Int) == 0) = false := beq_eq_false_iff_ne.2 q2
    have b2 : (N == 0) = false := beq_eq_false_iff_ne.2 (by omega)
    have hmm := @run_makeMap Try.prog
    clear h hns q2
    have HNUM : Aside0 (∀ w', Below w.heap.size w w' → Calls Try.prog 17 #[.slice A0 N c0] w' fun e w'' => ∃ v0_ : Value, e = .returned (v0_) ∧ Kd.R (Kd.int .i64) 3 w'' w'.heap.size (fun _ => True) v0_ ns ∧ Below w'.heap.size w' w'') := ⟨fun w' hb => by rw [← HN.out]; exact voice_numbers.calls k A0 c0 l0 ns w' (Kd.C_below HR0.out hb) HC0.out HNS.out⟩
    obtain ⟨M, hM⟩ : ∃ M, ns.length = M := ⟨_, rfl⟩
    have HM := Aside0.mk hM
    clear hM
    go_enter Try.func12, Try.ntmps12
    go_wp2_with (first
      | (go_at_call 16; (with_reducible refine HASK.out.mono ?_); rintro e w1 ⟨rfl, hb⟩; have HB1 := Aside0.mk hb; clear hb)
      | (go_at_call 17; (with_reducible refine (HNUM.out _ (below_alloc HB1.out _)).mono ?_); rintro e w3 ⟨v3, rfl, ho, hb⟩; obtain ⟨A3, c3, e3⟩ := Kd.R_slice ho; rw [HM.out] at e3; subst e3; have HO3 := Aside0.mk ho; have HOWN3 : Aside0 (w3.ownsMap Try.prog 3 (plainElem Try.prog 4) w1.heap.size 0 (.map [] : DataW Unit)) := ⟨ownsMap_below (World.ownsMap_made _ _ _ _) hb⟩; have HB3 : Aside0 (Below w.heap.size w w3) := ⟨(below_alloc HB1.out _).trans (hb.mono (below_alloc HB1.out _).size)⟩; clear ho hb))
    clear hmm b1 b2
    obtain ⟨B, hB⟩ : ∃ B, w1.heap.size = B := ⟨_, rfl⟩
    have HBW : Aside0 (w.heap.size ≤ B ∧ B < w3.heap.size) := ⟨by have := HB1.out.size; omega, by rw [← hB]; exact HOWN3.out.lt⟩
    rw [hB] at HOWN3 ⊢
    obtain ⟨b3, hb3, HO4⟩ : ∃ b3, B < b3 ∧ Aside0 (Kd.R (Kd.int .i64) 3 w3 b3 (fun k => B < k) (.slice A3 M c3) ns) := ⟨_, by rw [← hB]; simp, ⟨Kd.R_mono (Kd.R_bound HO3.out) (fun k hk => by have h1 := hk.2.1; rw [← hB]; simp at h1; omega)⟩⟩
    clear hB HO3
    have hmM : M ≤ 9223372036854775807 := by
      obtain ⟨A5, c5, e5, _, hr⟩ := Kd.R_reads HO4.out
      have := hr.2.1
      rw [HM.out] at this
      simpa [maxLen] using this
    go_loopg [8, 9, 10, 25] M (fun kq v8 v9 v10 v25 W' => ∃ (i : Nat) (c l t : Int) (D : DataW Unit), v25 = .int .i64 i ∧ v8 = .int .i64 c ∧ v9 = .int .i64 l ∧ v10 = .int .i64 t ∧ i + kq = M ∧ Aside0 (lostFrom (ns.drop i) (ns.take i) t c l = (r1, r2, r3, r4)) ∧ Aside0 (W'.ownsMap Try.prog 3 (plainElem Try.prog 4) B i D) ∧ Aside0 (Go.Maps.IsMap D ∧ ∀ x : Int, (Lit.int .i64 x).wf = true → D.atKey (.int .i64 x) (.lit (.bool false)) = .lit (.bool (decide (x ∈ ns.take i)))) ∧ Aside0 (Kd.R (Kd.int .i64) 3 W' b3 (fun k => B < k) (.slice A3 M c3) ns) ∧ Aside0 (Below w.heap.size w W'))
    case atStart => exact ⟨0, 0, 0, -1, .map [], rfl, rfl, rfl, rfl, by omega, HR, HOWN3, ⟨Go.Maps.isMap_empty, fun x _ => by simp [DataW.atKey]⟩, HO4, HB3⟩
    case round =>
      clear HR HOWN3 HO4 HB3 HB1
      obtain ⟨i, c, l, t, D, rfl, rfl, rfl, rfl, hik, HA, HOWN, HSEEN, HO, HB⟩ := hrel
      have i0 : (0 : Int) ≤ (i : Int) := by omega
      by_cases hi : i < M
      · obtain ⟨q, rfl⟩ : ∃ q, gk = q + 1 := ⟨gk - 1, by omega⟩
        have i1 : (i : Int) < (M : Int) := by omega
        have hcc := (Kd.R_reads HO.out)
        obtain ⟨A5, c5, e5, _, hcr⟩ := hcc
        have e51 : A3 = A5 := by injection e5
        subst e51
        obtain ⟨ad, e, hx⟩ := Kd.at_int hcr (i : Int) i0 (by rw [HM.out]; exact i1)
        subst e
        rw [Int.toNat_natCast] at hx
        have hiN : i < ns.length := by rw [HM.out]; exact hi
        have hrd : rd ns (i : Int) = ns[i] := by unfold rd; rw [Int.toNat_natCast, List.getD_eq_getElem?_getD, List.getElem?_eq_getElem hiN]; rfl
        obtain ⟨n, hn⟩ : ∃ n, ns[i] = n := ⟨_, rfl⟩
        rw [hrd, hn] at hx
        have hwf : (Lit.int .i64 n).wf = true := HWF.out n (by rw [← hn]; exact List.getElem_mem hiN)
        have HD : Aside0 (ns.drop i = n :: ns.drop (i + 1)) := ⟨by rw [List.drop_eq_getElem_cons hiN, hn]⟩
        have HT : Aside0 (ns.take (i + 1) = ns.take i ++ [n]) := ⟨by rw [List.take_succ_eq_append_getElem hiN, hn]⟩
        obtain ⟨b, hrun, hat⟩ := look_bool HOWN.out hwf
        have hbe : b = decide (n ∈ ns.take i) := by
          have h2 := HSEEN.out.2 n hwf
          rw [hat] at h2
          injection h2 with h2
          injection h2
        have HA2 := HA.out
        rw [HD.out, lostFrom, ← HT.out] at HA2
        have HKEY : Aside0 (Go.keyOf Try.prog 3 (.int .i64 n) = some (.int .i64 n)) := ⟨Go.Maps.keyOf_int_mk Try.underlying3 hwf⟩
        have HSE2 : Aside0 (Go.Maps.IsMap (D.put (.int .i64 n) (.lit (.bool true))) ∧ ∀ x : Int, (Lit.int .i64 x).wf = true → (D.put (.int .i64 n) (.lit (.bool true))).atKey (.int .i64 x) (.lit (.bool false)) = .lit (.bool (decide (x ∈ ns.take (i + 1))))) := ⟨HSEEN.out.1.put _ _, fun x hxw => by
          rw [HT.out]
          by_cases exn : x = n
          · rw [exn, Go.Maps.atKey_put_same HSEEN.out.1 (show WideAt.IsKeyLit (.int .i64 n) from trivial)]
            simp
          · rw [Go.Maps.atKey_put_other (by intro h; injection h with _ h; exact exn h), HSEEN.out.2 x hxw]
            simp [exn]⟩
        have hMX : i < maxLen := by unfold maxLen; omega
        have HLT := Aside0.mk hMX
        have i9 : (i : Int) + 1 ≤ 9223372036854775807 := by omega
        clear hn hrd hwf HA HD hat hcr hmM hMX
        cases b with
        | true =>
          have hm : n ∈ ns.take i := of_decide_eq_true hbe.symm
          by_cases p1 : n < t
          · by_cases p3 : 0 ≤ n
            · have f1 : decide (n < t) = true := decide_eq_true p1
              have f2 : decide (t < n) = false := decide_eq_false (by omega)
              have f3 : decide (0 ≤ n) = true := decide_eq_true p3
              rw [if_neg (fun h => h.2 hm), if_pos (Or.inr hm), show mx t n = t from by unfold mx; rw [if_neg (by omega)]] at HA2
              have H' := Aside0.mk HA2
              clear HA2 hm hbe
              go_wp2_with (at_mapUpdate; refine wpList_mapUpdate_own _ rfl _ _ _ 58 rfl 3 4 lk58 Try.underlying58 _ B i D rfl HOWN.out HLT.out _ _ _ rfl rfl HKEY.out _ [] (plainElem_bool Try.underlying4 true) ?_; intro w5 hown hg; have HOWN5 := Aside0.mk hown; have HO5 := Aside0.mk (Kd.R_grown HO.out hg (fun k hk => by intro e; injection e with e; omega)); have HB5 : Aside0 (Below w.heap.size w w5) := ⟨HB.out.grown hg HB.out.size (fun j hj => by cases hj; exact HBW.out.1)⟩; clear hown hg)
              go_roundg q
              case measure => omega
              case rel => exact ⟨i + 1, _, _, _, _, by simp, rfl, rfl, rfl, by omega, H', HOWN5, HSE2, HO5, HB5⟩
            · have f1 : decide (n < t) = true := decide_eq_true p1
              have f2 : decide (t < n) = false := decide_eq_false (by omega)
              have f3 : decide (0 ≤ n) = false := decide_eq_false p3
              rw [if_neg (fun h => h.2 hm), if_pos (Or.inr hm), show mx t n = t from by unfold mx; rw [if_neg (by omega)]] at HA2
              have H' := Aside0.mk HA2
              clear HA2 hm hbe
              go_wp2_with (at_mapUpdate; refine wpList_mapUpdate_own _ rfl _ _ _ 58 rfl 3 4 lk58 Try.underlying58 _ B i D rfl HOWN.out HLT.out _ _ _ rfl rfl HKEY.out _ [] (plainElem_bool Try.underlying4 true) ?_; intro w5 hown hg; have HOWN5 := Aside0.mk hown; have HO5 := Aside0.mk (Kd.R_grown HO.out hg (fun k hk => by intro e; injection e with e; omega)); have HB5 : Aside0 (Below w.heap.size w w5) := ⟨HB.out.grown hg HB.out.size (fun j hj => by cases hj; exact HBW.out.1)⟩; clear hown hg)
              go_roundg q
              case measure => omega
              case rel => exact ⟨i + 1, _, _, _, _, by simp, rfl, rfl, rfl, by omega, H', HOWN5, HSE2, HO5, HB5⟩
          · by_cases p2 : t < n
            · by_cases p3 : 0 ≤ n
              · have f1 : decide (n < t) = false := decide_eq_false p1
                have f2 : decide (t < n) = true := decide_eq_true (by omega)
                have f3 : decide (0 ≤ n) = true := decide_eq_true p3
                rw [if_neg (fun h => h.2 hm), if_pos (Or.inr hm), show mx t n = n from by unfold mx; rw [if_pos (by omega)]] at HA2
                have H' := Aside0.mk HA2
                clear HA2 hm hbe
                go_wp2_with (at_mapUpdate; refine wpList_mapUpdate_own _ rfl _ _ _ 58 rfl 3 4 lk58 Try.underlying58 _ B i D rfl HOWN.out HLT.out _ _ _ rfl rfl HKEY.out _ [] (plainElem_bool Try.underlying4 true) ?_; intro w5 hown hg; have HOWN5 := Aside0.mk hown; have HO5 := Aside0.mk (Kd.R_grown HO.out hg (fun k hk => by intro e; injection e with e; omega)); have HB5 : Aside0 (Below w.heap.size w w5) := ⟨HB.out.grown hg HB.out.size (fun j hj => by cases hj; exact HBW.out.1)⟩; clear hown hg)
                go_roundg q
                case measure => omega
                case rel => exact ⟨i + 1, _, _, _, _, by simp, rfl, rfl, rfl, by omega, H', HOWN5, HSE2, HO5, HB5⟩
              · have f1 : decide (n < t) = false := decide_eq_false p1
                have f2 : decide (t < n) = true := decide_eq_true (by omega)
                have f3 : decide (0 ≤ n) = false := decide_eq_false p3
                rw [if_neg (fun h => h.2 hm), if_pos (Or.inr hm), show mx t n = n from by unfold mx; rw [if_pos (by omega)]] at HA2
                have H' := Aside0.mk HA2
                clear HA2 hm hbe
                go_wp2_with (at_mapUpdate; refine wpList_mapUpdate_own _ rfl _ _ _ 58 rfl 3 4 lk58 Try.underlying58 _ B i D rfl HOWN.out HLT.out _ _ _ rfl rfl HKEY.out _ [] (plainElem_bool Try.underlying4 true) ?_; intro w5 hown hg; have HOWN5 := Aside0.mk hown; have HO5 := Aside0.mk (Kd.R_grown HO.out hg (fun k hk => by intro e; injection e with e; omega)); have HB5 : Aside0 (Below w.heap.size w w5) := ⟨HB.out.grown hg HB.out.size (fun j hj => by cases hj; exact HBW.out.1)⟩; clear hown hg)
                go_roundg q
                case measure => omega
                case rel => exact ⟨i + 1, _, _, _, _, by simp, rfl, rfl, rfl, by omega, H', HOWN5, HSE2, HO5, HB5⟩
            · by_cases p3 : 0 ≤ n
              · have f1 : decide (n < t) = false := decide_eq_false p1
                have f2 : decide (t < n) = false := decide_eq_false (by omega)
                have f3 : decide (0 ≤ n) = true := decide_eq_true p3
                rw [if_neg (fun h => h.2 hm), if_pos (Or.inr hm), show mx t n = t from by unfold mx; rw [if_neg (by omega)]] at HA2
                have H' := Aside0.mk HA2
                clear HA2 hm hbe
                go_wp2_with (at_mapUpdate; refine wpList_mapUpdate_own _ rfl _ _ _ 58 rfl 3 4 lk58 Try.underlying58 _ B i D rfl HOWN.out HLT.out _ _ _ rfl rfl HKEY.out _ [] (plainElem_bool Try.underlying4 true) ?_; intro w5 hown hg; have HOWN5 := Aside0.mk hown; have HO5 := Aside0.mk (Kd.R_grown HO.out hg (fun k hk => by intro e; injection e with e; omega)); have HB5 : Aside0 (Below w.heap.size w w5) := ⟨HB.out.grown hg HB.out.size (fun j hj => by cases hj; exact HBW.out.1)⟩; clear hown hg)
                go_roundg q
                case measure => omega
                case rel => exact ⟨i + 1, _, _, _, _, by simp, rfl, rfl, rfl, by omega, H', HOWN5, HSE2, HO5, HB5⟩
              · have f1 : decide (n < t) = false := decide_eq_false p1
                have f2 : decide (t < n) = false := decide_eq_false (by omega)
                have f3 : decide (0 ≤ n) = false := decide_eq_false p3
                rw [if_neg (fun h => h.2 hm), if_pos (Or.inr hm), show mx t n = t from by unfold mx; rw [if_neg (by omega)]] at HA2
                have H' := Aside0.mk HA2
                clear HA2 hm hbe
                go_wp2_with (at_mapUpdate; refine wpList_mapUpdate_own _ rfl _ _ _ 58 rfl 3 4 lk58 Try.underlying58 _ B i D rfl HOWN.out HLT.out _ _ _ rfl rfl HKEY.out _ [] (plainElem_bool Try.underlying4 true) ?_; intro w5 hown hg; have HOWN5 := Aside0.mk hown; have HO5 := Aside0.mk (Kd.R_grown HO.out hg (fun k hk => by intro e; injection e with e; omega)); have HB5 : Aside0 (Below w.heap.size w w5) := ⟨HB.out.grown hg HB.out.size (fun j hj => by cases hj; exact HBW.out.1)⟩; clear hown hg)
                go_roundg q
                case measure => omega
                case rel => exact ⟨i + 1, _, _, _, _, by simp, rfl, rfl, rfl, by omega, H', HOWN5, HSE2, HO5, HB5⟩
        | false =>
          have hm : ¬ n ∈ ns.take i := of_decide_eq_false hbe.symm
          by_cases p1 : n < t
          · by_cases p3 : 0 ≤ n
            · have f1 : decide (n < t) = true := decide_eq_true p1
              have f2 : decide (t < n) = false := decide_eq_false (by omega)
              have f3 : decide (0 ≤ n) = true := decide_eq_true p3
              rw [if_pos ⟨p3, hm⟩, if_pos (Or.inl p1), show mx t n = t from by unfold mx; rw [if_neg (by omega)]] at HA2
              have H' := Aside0.mk HA2
              clear HA2 hm hbe
              go_wp2_with (at_mapUpdate; refine wpList_mapUpdate_own _ rfl _ _ _ 58 rfl 3 4 lk58 Try.underlying58 _ B i D rfl HOWN.out HLT.out _ _ _ rfl rfl HKEY.out _ [] (plainElem_bool Try.underlying4 true) ?_; intro w5 hown hg; have HOWN5 := Aside0.mk hown; have HO5 := Aside0.mk (Kd.R_grown HO.out hg (fun k hk => by intro e; injection e with e; omega)); have HB5 : Aside0 (Below w.heap.size w w5) := ⟨HB.out.grown hg HB.out.size (fun j hj => by cases hj; exact HBW.out.1)⟩; clear hown hg)
              go_roundg q
              case measure => omega
              case rel => exact ⟨i + 1, _, _, _, _, by simp, rfl, rfl, rfl, by omega, H', HOWN5, HSE2, HO5, HB5⟩
            · have f1 : decide (n < t) = true := decide_eq_true p1
              have f2 : decide (t < n) = false := decide_eq_false (by omega)
              have f3 : decide (0 ≤ n) = false := decide_eq_false p3
              rw [if_neg (fun h => p3 h.1), if_pos (Or.inl p1), show mx t n = t from by unfold mx; rw [if_neg (by omega)]] at HA2
              have H' := Aside0.mk HA2
              clear HA2 hm hbe
              go_wp2_with (at_mapUpdate; refine wpList_mapUpdate_own _ rfl _ _ _ 58 rfl 3 4 lk58 Try.underlying58 _ B i D rfl HOWN.out HLT.out _ _ _ rfl rfl HKEY.out _ [] (plainElem_bool Try.underlying4 true) ?_; intro w5 hown hg; have HOWN5 := Aside0.mk hown; have HO5 := Aside0.mk (Kd.R_grown HO.out hg (fun k hk => by intro e; injection e with e; omega)); have HB5 : Aside0 (Below w.heap.size w w5) := ⟨HB.out.grown hg HB.out.size (fun j hj => by cases hj; exact HBW.out.1)⟩; clear hown hg)
              go_roundg q
              case measure => omega
              case rel => exact ⟨i + 1, _, _, _, _, by simp, rfl, rfl, rfl, by omega, H', HOWN5, HSE2, HO5, HB5⟩
          · by_cases p2 : t < n
            · by_cases p3 : 0 ≤ n
              · have f1 : decide (n < t) = false := decide_eq_false p1
                have f2 : decide (t < n) = true := decide_eq_true (by omega)
                have f3 : decide (0 ≤ n) = true := decide_eq_true p3
                rw [if_pos ⟨p3, hm⟩, if_neg (fun h => h.elim p1 hm), show mx t n = n from by unfold mx; rw [if_pos (by omega)]] at HA2
                have H' := Aside0.mk HA2
                clear HA2 hm hbe
                go_wp2_with (at_mapUpdate; refine wpList_mapUpdate_own _ rfl _ _ _ 58 rfl 3 4 lk58 Try.underlying58 _ B i D rfl HOWN.out HLT.out _ _ _ rfl rfl HKEY.out _ [] (plainElem_bool Try.underlying4 true) ?_; intro w5 hown hg; have HOWN5 := Aside0.mk hown; have HO5 := Aside0.mk (Kd.R_grown HO.out hg (fun k hk => by intro e; injection e with e; omega)); have HB5 : Aside0 (Below w.heap.size w w5) := ⟨HB.out.grown hg HB.out.size (fun j hj => by cases hj; exact HBW.out.1)⟩; clear hown hg)
                go_roundg q
                case measure => omega
                case rel => exact ⟨i + 1, _, _, _, _, by simp, rfl, rfl, rfl, by omega, H', HOWN5, HSE2, HO5, HB5⟩
              · have f1 : decide (n < t) = false := decide_eq_false p1
                have f2 : decide (t < n) = true := decide_eq_true (by omega)
                have f3 : decide (0 ≤ n) = false := decide_eq_false p3
                rw [if_neg (fun h => p3 h.1), if_neg (fun h => h.elim p1 hm), show mx t n = n from by unfold mx; rw [if_pos (by omega)]] at HA2
                have H' := Aside0.mk HA2
                clear HA2 hm hbe
                go_wp2_with (at_mapUpdate; refine wpList_mapUpdate_own _ rfl _ _ _ 58 rfl 3 4 lk58 Try.underlying58 _ B i D rfl HOWN.out HLT.out _ _ _ rfl rfl HKEY.out _ [] (plainElem_bool Try.underlying4 true) ?_; intro w5 hown hg; have HOWN5 := Aside0.mk hown; have HO5 := Aside0.mk (Kd.R_grown HO.out hg (fun k hk => by intro e; injection e with e; omega)); have HB5 : Aside0 (Below w.heap.size w w5) := ⟨HB.out.grown hg HB.out.size (fun j hj => by cases hj; exact HBW.out.1)⟩; clear hown hg)
                go_roundg q
                case measure => omega
                case rel => exact ⟨i + 1, _, _, _, _, by simp, rfl, rfl, rfl, by omega, H', HOWN5, HSE2, HO5, HB5⟩
            · by_cases p3 : 0 ≤ n
              · have f1 : decide (n < t) = false := decide_eq_false p1
                have f2 : decide (t < n) = false := decide_eq_false (by omega)
                have f3 : decide (0 ≤ n) = true := decide_eq_true p3
                rw [if_pos ⟨p3, hm⟩, if_neg (fun h => h.elim p1 hm), show mx t n = t from by unfold mx; rw [if_neg (by omega)]] at HA2
                have H' := Aside0.mk HA2
                clear HA2 hm hbe
                go_wp2_with (at_mapUpdate; refine wpList_mapUpdate_own _ rfl _ _ _ 58 rfl 3 4 lk58 Try.underlying58 _ B i D rfl HOWN.out HLT.out _ _ _ rfl rfl HKEY.out _ [] (plainElem_bool Try.underlying4 true) ?_; intro w5 hown hg; have HOWN5 := Aside0.mk hown; have HO5 := Aside0.mk (Kd.R_grown HO.out hg (fun k hk => by intro e; injection e with e; omega)); have HB5 : Aside0 (Below w.heap.size w w5) := ⟨HB.out.grown hg HB.out.size (fun j hj => by cases hj; exact HBW.out.1)⟩; clear hown hg)
                go_roundg q
                case measure => omega
                case rel => exact ⟨i + 1, _, _, _, _, by simp, rfl, rfl, rfl, by omega, H', HOWN5, HSE2, HO5, HB5⟩
              · have f1 : decide (n < t) = false := decide_eq_false p1
                have f2 : decide (t < n) = false := decide_eq_false (by omega)
                have f3 : decide (0 ≤ n) = false := decide_eq_false p3
                rw [if_neg (fun h => p3 h.1), if_neg (fun h => h.elim p1 hm), show mx t n = t from by unfold mx; rw [if_neg (by omega)]] at HA2
                have H' := Aside0.mk HA2
                clear HA2 hm hbe
                go_wp2_with (at_mapUpdate; refine wpList_mapUpdate_own _ rfl _ _ _ 58 rfl 3 4 lk58 Try.underlying58 _ B i D rfl HOWN.out HLT.out _ _ _ rfl rfl HKEY.out _ [] (plainElem_bool Try.underlying4 true) ?_; intro w5 hown hg; have HOWN5 := Aside0.mk hown; have HO5 := Aside0.mk (Kd.R_grown HO.out hg (fun k hk => by intro e; injection e with e; omega)); have HB5 : Aside0 (Below w.heap.size w w5) := ⟨HB.out.grown hg HB.out.size (fun j hj => by cases hj; exact HBW.out.1)⟩; clear hown hg)
                go_roundg q
                case measure => omega
                case rel => exact ⟨i + 1, _, _, _, _, by simp, rfl, rfl, rfl, by omega, H', HOWN5, HSE2, HO5, HB5⟩
      · have hd : ns.drop i = [] := List.drop_eq_nil_of_le (by rw [HM.out]; omega)
        have ei : i = M := by omega
        have HA2 := HA.out
        rw [hd, lostFrom] at HA2
        simp only [Prod.mk.injEq] at HA2
        obtain ⟨rfl, rfl, rfl, rfl⟩ := HA2
        subst ei
        clear hd HA
        go_wp2
        (try simp only [Exit.inBlock, Exit.then]); refine bodyPost_ret (results_tmp4 rfl _ _ _) rfl ?_
        exact ⟨rfl, HB.out⟩
  · rw [if_neg q1] at h
    cases h
    have b1 : (r4 == 0) = false := beq_eq_false_iff_ne.2 q1
    have b2 : (r4 != 0) = true := bne_iff_ne.2 q1
    go_enter Try.func12, Try.ntmps12
    go_wp2_with (go_at_call 16; (with_reducible refine HASK.out.mono ?_); rintro e w1 ⟨rfl, hb⟩; have HB1 := Aside0.mk hb; clear hb)
    (try simp only [Exit.inBlock, Exit.then]); refine bodyPost_ret (results_tmp4 rfl _ _ _) rfl ?_
    exact ⟨rfl, HB1.out⟩

end Go.Proofs.Ytcinmodpfdehpaa.J
