/- Laid by a program of this repo over the translation: each Go function as a plain Lean function with the proof that the call comes to its answers, or a statement's row out of these; conditions: the hypotheses of each theorem. -/
import Derived.Test.YtcinmodpfdehpaaPx0
import Derived.Test.YtcinmodpfdehpaaPx1
import Derived.Test.YtcinmodpfdehpaaPx4
import Derived.Test.YtcinmodpfdehpaaPx6
namespace Go.Proofs.Ytcinmodpfdehpaa.P
open Go.RowKit Go.Proofs.YtcinmodpfdehpaaW.PrintWords Go.Proofs.YtcinmodpfdehpaaW.PrintLast Go.Proofs.YtcinmodpfdehpaaW.PrintMore
attribute [local go_sem] max2_int min2_int max_two min_two max_three min_three max_four min_four   -- for this text's walks alone
set_option linter.unusedVariables false
set_option linter.unusedSimpArgs false

/-! ### wireglassref25_Coder_decode: function 48 -/
-- EXT rounds=0 making=0
-- STATE wireglassref25.Coder
def wireglassref25_Coder_decode.f (s0_0 : Int) (s0_1 : Int) (s0_2 : List Int) (a1 : Int) : Option (Int × Int × Int) := if vOk s0_0 s0_1 s0_2 a1 = true then some (vP s0_0 (rd s0_2 s0_1) a1, vP s0_0 (rd s0_2 s0_1) a1, vK s0_1 a1) else none
set_option maxHeartbeats 8000000 in
set_option maxRecDepth 100000 in
theorem wireglassref25_Coder_decode.calls (g : Nat) (s0_0 : Int) (s0_1 : Int) (s0_2 : List Int) (a1 : Int) (r1 : Int) (r2 : Int) (r3 : Int) (w0 w : World) (hI : IsS87 w0 w g s0_0 s0_1 s0_2) (hB : Below w0.heap.size w0 w) (h : wireglassref25_Coder_decode.f s0_0 s0_1 s0_2 a1 = some (r1, r2, r3)) :
    Calls Try.prog 48 #[.pointer (some ⟨g, 0, none⟩), .int .i64 a1] w fun e w' => e = .returned (.int .i64 r1) ∧ IsS87 w0 w' g r2 r3 s0_2 ∧ Below w0.heap.size w0 w' ∧ KeepBut w w' g none := by
  have HI0 := Aside0.mk hI
  have HK := Aside0.mk (KeepBut.refl w g none)
  have HL := Aside0.mk hB.size
  clear hI
  have HW0 := Aside0.mk hB.size
  have HB := Aside0.mk hB
  clear hB
  have H := Aside0.mk h
  clear h
  have hok : vOk s0_0 s0_1 s0_2 a1 = true := by
    have h := H.out
    unfold wireglassref25_Coder_decode.f at h
    by_cases c : vOk s0_0 s0_1 s0_2 a1 = true
    · exact c
    · rw [if_neg c] at h; cases h
  have H2 : some (vP s0_0 (rd s0_2 s0_1) a1, vP s0_0 (rd s0_2 s0_1) a1, vK s0_1 a1) = some (r1, r2, r3) := by
    have h := H.out
    unfold wireglassref25_Coder_decode.f at h
    rwa [if_pos hok] at h
  clear H
  obtain ⟨hk0, hk1, hlen, hc0, hc1, hp0, hp1, ht0, ht1⟩ := of_decide_eq_true hok
  clear hok
  obtain ⟨ASz2_2, cSz2_2, HGz2, hgz2, HSz2_2⟩ := HI0.out
  have hcz2_0 := cellS87_0 HGz2
  have hcz2_1 := cellS87_1 HGz2
  have hcz2_2 := cellS87_2 HGz2
  have hfz2_0 := blk_frozen HGz2 0
  have hfz2_1 := blk_frozen HGz2 1
  clear HGz2 hgz2
  have hkl : s0_1 < (s0_2.length : Int) := by omega
  obtain ⟨ad, ead, hx⟩ := Kd.at_int (Kd.C_below HSz2_2 HB.out) s0_1 hk0 hkl
  cases ead
  obtain ⟨t, ht⟩ : ∃ t, rd s0_2 s0_1 = t := ⟨_, rfl⟩
  rw [ht] at hx H2 ht0 ht1
  injection H2 with H2
  simp only [Prod.mk.injEq] at H2
  obtain ⟨rfl, rfl, rfl⟩ := H2
  clear ht
  have hb4 : ∀ b : Bool, (Go.bits .and .i64 a1 4 != 0) = b → (b = true ↔ a1 / 4 % 2 = 1) := fun b h => by subst h; exact vBit4 a1 hc0 hc1
  have hb2 : ∀ b : Bool, (Go.bits .and .i64 a1 2 != 0) = b → (b = true ↔ a1 / 2 % 2 = 1) := fun b h => by subst h; exact vBit2 a1 hc0 hc1
  have hb1 : ∀ b : Bool, (Go.bits .and .i64 a1 1 != 0) = b → (b = true ↔ a1 % 2 = 1) := fun b h => by subst h; exact vBit1 a1 hc0 hc1
  have hb8 : ∀ b : Bool, (Go.bits .and .i64 a1 8 != 0) = b → (b = true ↔ a1 / 8 = 1) := fun b h => by subst h; exact vBit8 a1 hc0 hc1
  go_enter Try.func48, Try.ntmps48
  go_wp2
  go_quiet (fail)
  go_upto_if 22 with (fail)
  go_cut [6] from 8 (fun s6 wx => s6 = .int .i64 (vSum t a1 1) ∧ wx = w.drewN nq)
  case first =>
    cases hb : (Go.bits .and .i64 a1 4 != 0) with
    | true =>
      have hq := (hb4 _ hb).1 rfl
      go_wp2
      go_meet
      case rel => exact ⟨by rw [← vSum1t ht0 ht1 hq, vSum0, Hand.w64 (by omega) (by omega)], rfl⟩
    | false =>
      have hq : ¬ _ := fun h => Bool.false_ne_true ((hb4 _ hb).2 h)
      go_wp2
      go_meet
      case rel => exact ⟨by rw [← vSum1f hq]; rw [vSum0], rfl⟩
  obtain ⟨rfl, rfl⟩ := hcut
  go_upto_if 28 with (fail)
  go_cut [6] from 8 (fun s6 wx => s6 = .int .i64 (vSum t a1 2) ∧ wx = w.drewN nq)
  case first =>
    cases hb : (Go.bits .and .i64 a1 2 != 0) with
    | true =>
      have hq := (hb2 _ hb).1 rfl
      go_wp2
      go_meet
      case rel => exact ⟨by rw [← vSum2t ht0 ht1 hq], rfl⟩
    | false =>
      have hq : ¬ _ := fun h => Bool.false_ne_true ((hb2 _ hb).2 h)
      go_wp2
      go_meet
      case rel => exact ⟨by rw [← vSum2f hq], rfl⟩
  obtain ⟨rfl, rfl⟩ := hcut
  go_upto_if 35 with (fail)
  go_cut [6] from 8 (fun s6 wx => s6 = .int .i64 (vSum t a1 3) ∧ wx = w.drewN nq)
  case first =>
    cases hb : (Go.bits .and .i64 a1 1 != 0) with
    | true =>
      have hq := (hb1 _ hb).1 rfl
      go_wp2
      go_meet
      case rel => exact ⟨by rw [← vSum3t ht0 ht1 hq], rfl⟩
    | false =>
      have hq : ¬ _ := fun h => Bool.false_ne_true ((hb1 _ hb).2 h)
      go_wp2
      go_meet
      case rel => exact ⟨by rw [← vSum3f hq], rfl⟩
  obtain ⟨rfl, rfl⟩ := hcut
  rw [vSum3]
  have hd := vDelta_bd (a := a1) ht0 ht1
  obtain ⟨D, hD⟩ : ∃ D, (if a1 / 8 = 1 then - vDelta t a1 else vDelta t a1) = D := ⟨_, rfl⟩
  go_upto_if 42 with (fail)
  go_cut [6] from 8 (fun s6 wx => s6 = .int .i64 D ∧ wx = w.drewN nq)
  case first =>
    cases hb : (Go.bits .and .i64 a1 8 != 0) with
    | true =>
      have hq := (hb8 _ hb).1 rfl
      rw [if_pos hq] at hD
      go_wp2
      go_meet
      case rel => exact ⟨by rw [← hD], rfl⟩
    | false =>
      have hq : ¬ a1 / 8 = 1 := fun h => Bool.false_ne_true ((hb8 _ hb).2 h)
      rw [if_neg hq] at hD
      go_wp2
      go_meet
      case rel => exact ⟨by rw [← hD], rfl⟩
  obtain ⟨rfl, rfl⟩ := hcut
  have hP : vP s0_0 t a1 = min (max (s0_0 + D) (-32768)) 32767 := by unfold vP; rw [hD]
  have hDb : -400000 ≤ D ∧ D ≤ 400000 := by rw [← hD]; split <;> omega
  clear hD hb4 hb2 hb1 hb8
  have hw2 : wrap64 (s0_0 + D) = s0_0 + D := Hand.w64 (by omega) (by omega)
  obtain ⟨p1, hp1'⟩ : ∃ p1, vP s0_0 t a1 = p1 := ⟨_, rfl⟩
  rw [hp1'] at hP
  have HP := Aside0.mk hP
  clear hP
  have HQ := Aside0.mk hp1'
  clear hp1'
  go_upto_region 11 with (fail)
  go_cut [6] from 8 (fun s6 wx => s6 = .int .i64 D ∧ wx = (w.drewN nq).setCell ⟨g, 0, none⟩ (.int .i64 p1))
  case first =>
    go_wp2
    all_goals go_meet
    all_goals exact ⟨rfl, congrArg (fun z => (w.drewN nq).setCell ⟨g, 0, none⟩ (Value.int .i64 z)) (by have := HP.out; omega)⟩
  obtain ⟨rfl, rfl⟩ := hcut
  go_upto_region 13 with (fail)
  obtain ⟨W2, hW2⟩ : ∃ W2, ((w.drewN nq).setCell ⟨g, 0, none⟩ (.int .i64 p1)).alloc (.cells #[.int .i64 (-1), .int .i64 (-1), .int .i64 (-1), .int .i64 (-1), .int .i64 2, .int .i64 4, .int .i64 6, .int .i64 8] 3) = W2 := ⟨_, rfl⟩
  have HS1 : Aside0 (IsS87 w0 W2 g p1 s0_1 s0_2) := ⟨by rw [← hW2]; exact IsS87.alloc (IsS87.set_0 (IsS87.drewN HI0.out nq) _) _⟩
  have HB1 : Aside0 (Below w0.heap.size w0 W2) := ⟨by rw [← hW2]; exact below_alloc (below_set (pw_below_drewN HB.out nq) (IsS87.ge HI0.out)) _⟩
  have HK1 : Aside0 (KeepBut w W2 g none) := ⟨by rw [← hW2]; exact keep_alloc (KeepBut.set_ (keep_drewN HK.out nq) _ _) _⟩
  have hl : W2.cell? ⟨w.heap.size, (a1 % 8).toNat, none⟩ = some (.int .i64 (vTab a1)) := by
    rw [← hW2]
    have hb := heap_alloc_new ((w.drewN nq).setCell ⟨g, 0, none⟩ (.int .i64 p1)) (.cells #[.int .i64 (-1), .int .i64 (-1), .int .i64 (-1), .int .i64 (-1), .int .i64 2, .int .i64 4, .int .i64 6, .int .i64 8] 3)
    have hs : ((w.drewN nq).setCell ⟨g, 0, none⟩ (.int .i64 p1)).heap.size = w.heap.size := by simp
    rw [hs] at hb
    have hc := fun j => blk_cell hb j
    have h : a1 % 8 = 0 ∨ a1 % 8 = 1 ∨ a1 % 8 = 2 ∨ a1 % 8 = 3 ∨ a1 % 8 = 4 ∨ a1 % 8 = 5 ∨ a1 % 8 = 6 ∨ a1 % 8 = 7 := by omega
    unfold vTab
    rcases h with e | e | e | e | e | e | e | e <;> rw [e]
    · exact (hc 0).trans rfl
    · exact (hc 1).trans rfl
    · exact (hc 2).trans rfl
    · exact (hc 3).trans rfl
    · exact (hc 4).trans rfl
    · exact (hc 5).trans rfl
    · exact (hc 6).trans rfl
    · exact (hc 7).trans rfl
  rw [hW2]
  clear hW2 hcz2_0 hcz2_1 hcz2_2 hfz2_0 hfz2_1 hx HSz2_2
  obtain ⟨Aw, cw, HG, hg', HSr⟩ := HS1.out
  have hcz_0 := cellS87_0 HG
  have hcz_1 := cellS87_1 HG
  have hfz_1 := blk_frozen HG 1
  clear HG hg' HSr
  have htb := vTab_bd a1
  have hj0 : 0 ≤ a1 % 8 := by omega
  have hj1 : a1 % 8 < 8 := by omega
  have hw3 : wrap64 (s0_1 + vTab a1) = s0_1 + vTab a1 := Hand.w64 (by omega) (by omega)
  have key : ∀ x y x' y', x = x' → y = y' → ∀ W, IsS87 w0 W g x y s0_2 → IsS87 w0 W g x' y' s0_2 := by rintro _ _ _ _ rfl rfl _ h; exact h
  go_region
  all_goals go_wp2
  all_goals (repeat (go_quiet (fail); try go_wp2))
  all_goals go_ret
  all_goals refine ⟨?_, ?_, ?_, ?_⟩
  all_goals try (refine congrArg Ending.returned (congrArg (Value.int .i64) (?_ : _ = _)))
  all_goals try (repeat (first | with_reducible exact HB1.out | with_reducible apply below_drew1 | with_reducible apply pw_below_drewN | with_reducible refine below_set ?_ (IsS87.ge HI0.out)))
  all_goals try (repeat (first | with_reducible exact HK1.out | with_reducible apply KeepBut.set_ | with_reducible apply keep_drewN | with_reducible apply keep_drew))
  all_goals try (repeat (first | with_reducible exact HS1.out | with_reducible apply IsS87.drewN | with_reducible apply IsS87.drew | with_reducible apply IsS87.set_1 | with_reducible apply IsS87.set_0))
  all_goals ((try unfold vK); first | (have := HQ.out; omega) | exact key _ _ _ _ (HQ.out.symm) (by omega) _ (IsS87.set_1 HS1.out _))

/-! ### wireglassref25_Unframe: function 39 -/
-- EXT rounds=0 making=1
-- STATE wireglassref25.Coder
def wireglassref25_Unframe.f (b : List Int) : Option (List Int × Int) := voice_Unframe.f b
set_option maxHeartbeats 8000000 in
set_option maxRecDepth 100000 in
theorem rUnframe.fails (A0 : Option Addr) (c0 : Nat) (l0 : List Int) (w : World) (hr0 : Kd.C (Kd.int .u8) w A0 l0.length l0) (hc0 : l0.length ≤ c0) (hy : vBytes l0 = true) (h : vUnOk l0 = false) :
    Calls Try.prog 39 #[.slice A0 l0.length c0] w fun e w' => ∃ v0_ : Value, e = .returned (.tuple #[v0_, .int .i64 11]) ∧ Kd.R (Kd.int .i64) 3 w' w.heap.size (fun _ => True) v0_ [] ∧ Below w.heap.size w w' := by
  have hm := Kd.C_max hr0
  have HR0 := Aside0.mk hr0
  have HC0 := Aside0.mk hc0
  have HY := Aside0.mk hy
  clear hr0 hc0 hy
  have H := Aside0.mk h
  clear h
  by_cases c1 : (l0.length : Int) < 4
  · have c1b0 : decide ((l0.length : Int) < 4) = true := decide_eq_true c1
    have c1b1 : decide (l0.length < 4) = true := decide_eq_true (by omega)
    clear c1
    go_enter Try.func39, Try.ntmps39
    go_wp2
    go_ret2
    exact ⟨.slice none 0 0, rfl, Kd.R_nil _ _ _ _ _, by repeat (first | exact Below.refl _ _ | apply pw_below_drewN | apply below_drew1)⟩
  have c1b0 : decide ((l0.length : Int) < 4) = false := decide_eq_false c1
  have c1b1 : decide (l0.length < 4) = false := decide_eq_false (by omega)
  obtain ⟨ad, e, hx3⟩ := Kd.at_int HR0.out 3 (by omega) (by omega)
  cases e
  obtain ⟨ad', e, hx2⟩ := Kd.at_int HR0.out 2 (by omega) (by omega)
  cases e
  obtain ⟨hn0, hn1⟩ := vBytes_rd HY.out 3 (by omega) (by omega)
  obtain ⟨hk0, hk1⟩ := vBytes_rd HY.out 2 (by omega) (by omega)
  obtain ⟨ad', e, hxl⟩ := Kd.at_int HR0.out ((l0.length : Int) - 1) (by omega) (by omega)
  cases e
  have hbl := vBytes_rd HY.out ((l0.length : Int) - 1) (by omega) (by omega)
  have hand := and8_15 _ hbl.1 hbl.2
  obtain ⟨x3, h3⟩ : ∃ x, rd l0 3 = x := ⟨_, rfl⟩
  obtain ⟨x2, h2⟩ : ∃ x, rd l0 2 = x := ⟨_, rfl⟩
  obtain ⟨xl, hl⟩ : ∃ x, rd l0 ((l0.length : Int) - 1) = x := ⟨_, rfl⟩
  have HH : Aside0 (¬ (x3 ≠ 0 ∧ x2 ≤ 88 ∧ (l0.length : Int) = 4 + (x3 + 1) / 2 ∧ ¬ (x3 % 2 = 1 ∧ xl % 16 ≠ 0))) := ⟨by
    have h := H.out
    unfold vUnOk at h
    rw [decide_eq_false_iff_not, h3, h2, hl] at h
    exact fun h' => h ⟨by omega, h'⟩⟩
  rw [h3] at hx3 hn0 hn1
  rw [h2] at hx2 hk0 hk1
  rw [hl] at hxl hbl hand
  clear h3 h2 hl H
  simp only [Int.reduceToNat, Nat.reduceEqDiff, Go.Addr.add, ↓reduceIte] at hx3 hx2
  have hwl : IntKind.i64.wrap ((l0.length : Int) - 1) = (l0.length : Int) - 1 := by rw [i64_w]; unfold wrap64; omega
  have hxm := hxl
  rw [show ((l0.length : Int) - 1).toNat = l0.length - 1 by omega] at hxm
  have q1 : (0 : Int) ≤ (l0.length : Int) - 1 := by omega
  have q2 : (l0.length : Int) - 1 < l0.length := by omega
  by_cases c3 : 88 < x2
  · have c3b : decide (88 < x2) = true := decide_eq_true c3
    clear hbl hand
    go_enter Try.func39, Try.ntmps39
    go_wp2
    go_ret2
    exact ⟨.slice none 0 0, rfl, Kd.R_nil _ _ _ _ _, by repeat (first | exact Below.refl _ _ | apply pw_below_drewN | apply below_drew1)⟩
  have c3b : decide (88 < x2) = false := decide_eq_false c3
  by_cases c2 : x3 = 0
  · subst c2
    clear hbl hand
    go_enter Try.func39, Try.ntmps39
    go_wp2
    go_ret2
    exact ⟨.slice none 0 0, rfl, Kd.R_nil _ _ _ _ _, by repeat (first | exact Below.refl _ _ | apply pw_below_drewN | apply below_drew1)⟩
  have c2b : (x3 == 0) = false := by simpa using c2
  have c2c : (x3 != 0) = true := by simpa using c2
  by_cases c4 : (l0.length : Int) = 4 + (x3 + 1) / 2
  · have c4b : ((l0.length : Int) == 4 + (x3 + 1) / 2) = true := by simpa using c4
    have c4c : ((l0.length : Int) != 4 + (x3 + 1) / 2) = false := by simp [c4]
    by_cases c5 : x3 % 2 = 1
    · have c5b : (x3 % 2 == 1) = true := by simpa using c5
      by_cases c6 : xl % 16 = 0
      · exact absurd ⟨c2, by omega, c4, fun h => h.2 c6⟩ HH.out
      · have c6b : (xl % 16 == 0) = false := by simpa using c6
        have c6c : (xl % 16 != 0) = true := by simpa using c6
        obtain ⟨hbl0, hbl1⟩ := hbl
        clear c2 c3 c4 c5 c6
        go_enter Try.func39, Try.ntmps39
        go_wp2
        go_ret2
        exact ⟨.slice none 0 0, rfl, Kd.R_nil _ _ _ _ _, by repeat (first | exact Below.refl _ _ | apply pw_below_drewN | apply below_drew1)⟩
    · exact absurd ⟨c2, by omega, c4, fun h => c5 h.1⟩ HH.out
  · have c4b : ((l0.length : Int) == 4 + (x3 + 1) / 2) = false := by simpa using c4
    have c4c : ((l0.length : Int) != 4 + (x3 + 1) / 2) = true := by simpa using c4
    clear hbl hand c2 c3 c4
    go_enter Try.func39, Try.ntmps39
    go_wp2
    go_ret2
    exact ⟨.slice none 0 0, rfl, Kd.R_nil _ _ _ _ _, by repeat (first | exact Below.refl _ _ | apply pw_below_drewN | apply below_drew1)⟩
/-- Behind the frame's head: the coder stands at p0, k0. -/
def rUnAt (w w' : World) (g : Nat) (p k : Int) : Prop := ∃ w1, IsS87 w1 w' g p k (vStepsL 89) ∧ Below w1.heap.size w1 w' ∧ Below w.heap.size w w1
set_option maxHeartbeats 8000000 in
set_option maxRecDepth 100000 in
theorem rUnframe.does (A0 : Option Addr) (c0 : Nat) (l0 : List Int) (w : World) (hr0 : Kd.C (Kd.int .u8) w A0 l0.length l0) (hc0 : l0.length ≤ c0) (hy : vBytes l0 = true) (h : vUnOk l0 = true) :
    Calls Try.prog 39 #[.slice A0 l0.length c0] w fun e w' => ∃ v0_ : Value, e = .returned (.tuple #[v0_, .int .i64 0]) ∧ Kd.R (Kd.int .i64) 3 w' w.heap.size (fun _ => True) v0_ (vUn l0 (rd l0 3).toNat 0 (vP0 l0) (rd l0 2)) ∧ Below w.heap.size w w' := by
  have hm := Kd.C_max hr0
  have HR0 := Aside0.mk hr0
  have HC0 := Aside0.mk hc0
  have HY := Aside0.mk hy
  clear hr0 hc0 hy
  obtain ⟨c1, c2, c3, c4, c5⟩ := of_decide_eq_true h
  clear h
  have c1b0 : decide ((l0.length : Int) < 4) = false := decide_eq_false (by omega)
  have c1b1 : decide (l0.length < 4) = false := decide_eq_false (by omega)
  obtain ⟨ad, e, hx3⟩ := Kd.at_int HR0.out 3 (by omega) (by omega)
  cases e
  obtain ⟨ad', e, hx2⟩ := Kd.at_int HR0.out 2 (by omega) (by omega)
  cases e
  obtain ⟨ad', e, hxl⟩ := Kd.at_int HR0.out ((l0.length : Int) - 1) (by omega) (by omega)
  cases e
  obtain ⟨hn0, hn1⟩ := vBytes_rd HY.out 3 (by omega) (by omega)
  obtain ⟨hk0, hk1⟩ := vBytes_rd HY.out 2 (by omega) (by omega)
  have hbl := vBytes_rd HY.out ((l0.length : Int) - 1) (by omega) (by omega)
  have hand := and8_15 _ hbl.1 hbl.2
  obtain ⟨x3, h3⟩ : ∃ x, rd l0 3 = x := ⟨_, rfl⟩
  obtain ⟨x2, h2⟩ : ∃ x, rd l0 2 = x := ⟨_, rfl⟩
  obtain ⟨xl, hl⟩ : ∃ x, rd l0 ((l0.length : Int) - 1) = x := ⟨_, rfl⟩
  rw [h3] at hx3 hn0 hn1 c2 c4 c5
  rw [h2] at hx2 hk0 hk1 c3
  rw [hl] at hxl hbl hand c5
  rw [h3, h2]
  clear h3 h2 hl
  simp only [Int.reduceToNat, Nat.reduceEqDiff, Go.Addr.add, ↓reduceIte] at hx3 hx2
  have hwl : IntKind.i64.wrap ((l0.length : Int) - 1) = (l0.length : Int) - 1 := by rw [i64_w]; unfold wrap64; omega
  have hxm := hxl
  rw [show ((l0.length : Int) - 1).toNat = l0.length - 1 by omega] at hxm
  have q1 : (0 : Int) ≤ (l0.length : Int) - 1 := by omega
  have q2 : (l0.length : Int) - 1 < l0.length := by omega
  have c2b : (x3 == 0) = false := by simpa using c2
  have c2c : (x3 != 0) = true := by simpa using c2
  have c3b : decide (88 < x2) = false := decide_eq_false (by omega)
  have c4b : ((l0.length : Int) == 4 + (x3 + 1) / 2) = true := by simpa using c4
  have c4c : ((l0.length : Int) != 4 + (x3 + 1) / 2) = false := by simp [c4]
  obtain ⟨W, hW⟩ : ∃ W, w = W := ⟨_, rfl⟩
  have c5x : ((x3 % 2 == 1) = true ∧ (xl % 16 == 0) = true ∧ (xl % 16 != 0) = false) ∨ (x3 % 2 == 1) = false := by
    by_cases c : x3 % 2 = 1
    · have : xl % 16 = 0 := by
        by_cases c' : xl % 16 = 0
        · exact c'
        · exact absurd ⟨c, c'⟩ c5
      left; simp [c, this]
    · right; simpa using c
  clear hW W
  have HC4 := Aside0.mk c4
  obtain ⟨hbl0, hbl1⟩ := hbl
  clear c2 c4 c5
  obtain ⟨hy00, hy01⟩ := vBytes_rd HY.out 0 (by omega) (by omega)
  obtain ⟨hy10, hy11⟩ := vBytes_rd HY.out 1 (by omega) (by omega)
  have HY0 := Aside0.mk (And.intro hy00 hy01)
  have HY1 := Aside0.mk (And.intro hy10 hy11)
  have hwx : IntKind.i64.wrap x2 = x2 := by rw [i64_w]; unfold wrap64; omega
  have hs0 : (0 : Int) < (l0.length : Int) := by omega
  have hs00 : (1 : Int) < (l0.length : Int) := by omega
  have hs1 : (2 : Int) ≤ (c0 : Int) := by have := HC0.out; omega
  have hs2 : 2 ≤ c0 := by omega
  have hs3 : (2 : Int) < (l0.length : Int) := by omega
  have hs4 : 2 < l0.length := by omega
  have hs5 : decide ((2 : Int) < (l0.length : Int)) = true := decide_eq_true hs3
  have hs6 : decide ((2 : Int) ≤ (c0 : Int)) = true := decide_eq_true hs1
  obtain ⟨ad', e, hxa⟩ := Kd.at_int HR0.out 0 (by omega) (by omega)
  cases e
  obtain ⟨ad', e, hxb⟩ := Kd.at_int HR0.out 1 (by omega) (by omega)
  cases e
  simp only [Int.reduceToNat, Nat.reduceEqDiff, Go.Addr.add, ↓reduceIte] at hxa hxb
  obtain ⟨b0, hb0⟩ : ∃ x, rd l0 0 = x := ⟨_, rfl⟩
  obtain ⟨b1, hb1⟩ : ∃ x, rd l0 1 = x := ⟨_, rfl⟩
  have HV : Aside0 (vP0 l0 = if 256 * b0 + b1 > 32767 then 256 * b0 + b1 - 65536 else 256 * b0 + b1) := ⟨by unfold vP0; rw [hb0, hb1]⟩
  rw [hb0] at hxa HY0
  rw [hb1] at hxb HY1
  have hy00 := HY0.out.1
  have hy01 := HY0.out.2
  have hy10 := HY1.out.1
  have hy11 := HY1.out.2
  clear hb0 hb1
  obtain ⟨R, hR⟩ : ∃ R, vUn l0 x3.toNat 0 (vP0 l0) x2 = R := ⟨_, rfl⟩
  rw [hR]
  have HX0 := Aside0.mk hR
  clear hR
  rcases c5x with ⟨d1, d2, d3⟩ | d1
  all_goals
    go_enter Try.func39, Try.ntmps39
    go_upto_region 7 with (go_at_call 47; (with_reducible refine (wireglassref25_NewCoder.calls _).mono ?_); rintro e w2 ⟨g, w1, rfl, hI, hb, hb2⟩; have HI := Aside0.mk hI; have HB := Aside0.mk hb; have HB2 : Aside0 (Below w.heap.size w w1) := ⟨(pw_below_drewN (Below.refl _ w) 0).trans hb2⟩; clear hI hb hb2)
    obtain ⟨A2, c2, HG, hg, hc⟩ := HI.out
    have k0 := cellS87_0 HG
    have k1 := cellS87_1 HG
    have k2 := blk_frozen HG 0
    have k3 := blk_frozen HG 1
    have hgw : w.heap.size ≤ g := Nat.le_trans HB2.out.size hg
    have hbw : Below w.heap.size w w2 := HB2.out.trans (HB.out.mono HB2.out.size)
    have hne : ad.block ≠ g := by have := Kd.C_lt HR0.out (by omega) (by decide); omega
    have hz0 := pw_cell_below hbw hxa
    have hz1 := pw_cell_below hbw hxb
    have hz2 := pw_cell_below hbw hx2
    have HZ0 := Aside0.mk hz0
    have HZ1 := Aside0.mk hz1
    have HZ2 := Aside0.mk hz2
    have HFG := Aside0.mk hne
    clear HG hg hc hbw hx2 hx3 hxl hxm hgw hxa hxb hne
    go_cut [5] from 9 (fun s5 wx => s5 = .pointer (some ⟨g, 0, none⟩) ∧ rUnAt w wx g (256 * b0 + b1) x2)
    case first =>
      go_region
      all_goals go_wp2
      all_goals go_meet
      all_goals (refine ⟨rfl, w1, ?_, ?_, HB2.out⟩)
      all_goals (first
        | exact IsS87.set_1 (IsS87.set_0 (IsS87.drewN HI.out _) _) _
        | exact IsS87.set_0 (IsS87.set_1 (IsS87.drewN HI.out _) _) _
        | exact below_set (below_set (pw_below_drewN HB.out _) (IsS87.ge HI.out)) (IsS87.ge HI.out))
    clear hz0 hz1 hz2 k0 k1 k2 k3 HZ0 HZ1 HZ2 HI HB HB2
    obtain ⟨rfl, w1, hI, hb, hb2⟩ := hcut
    have HI := Aside0.mk hI
    have HB := Aside0.mk hb
    have HB2 := Aside0.mk hb2
    obtain ⟨A2, c2, HG, hg, hc⟩ := hI
    have k0 := cellS87_0 HG
    have k1 := cellS87_1 HG
    have k2 := blk_frozen HG 0
    have k3 := blk_frozen HG 1
    clear HG hg hc hb hb2
    go_upto_if 79 with (fail)
    go_cut [5] from 9 (fun s5 wx => s5 = .pointer (some ⟨g, 0, none⟩) ∧ rUnAt w wx g (vP0 l0) x2)
    case first =>
      by_cases hp : 32767 < 256 * b0 + b1
      · have hpb : decide (32767 < 256 * b0 + b1) = true := decide_eq_true hp
        have hP : Aside0 (vP0 l0 = 256 * b0 + b1 - 65536) := ⟨by rw [HV.out]; exact if_pos hp⟩
        go_wp2
        all_goals try go_region
        all_goals try go_wp2
        all_goals go_meet
        all_goals (refine ⟨rfl, w1, ?_, ?_, HB2.out⟩)
        all_goals try rw [hP.out]
        all_goals (first
          | exact IsS87.set_0 HI.out _
          | exact IsS87.set_0 (IsS87.drew HI.out) _
          | exact IsS87.drew (IsS87.set_0 HI.out _)
          | exact IsS87.set_0 (IsS87.drewN HI.out _) _
          | exact below_set HB.out (IsS87.ge HI.out)
          | exact below_set (below_drew1 HB.out) (IsS87.ge HI.out)
          | exact below_drew1 (below_set HB.out (IsS87.ge HI.out))
          | exact below_set (pw_below_drewN HB.out _) (IsS87.ge HI.out))
      · have hpb : decide (32767 < 256 * b0 + b1) = false := decide_eq_false hp
        have hP : Aside0 (vP0 l0 = 256 * b0 + b1) := ⟨by rw [HV.out]; exact if_neg hp⟩
        go_wp2
        go_meet
        case rel => exact ⟨rfl, w1, by rw [hP.out]; exact HI.out, HB.out, HB2.out⟩
    clear k0 k1 k2 k3 HI HB HB2 HFG
    obtain ⟨rfl, w1, hI, hb, hb2⟩ := hcut
    have HI0 := Aside0.mk hI
    have HB := Aside0.mk hb
    have HB2 := Aside0.mk hb2
    clear hI hb hb2
    have hp00 : -32768 ≤ vP0 l0 ∧ vP0 l0 ≤ 32767 := by rw [HV.out]; split <;> omega
    have HBD := Aside0.mk hp00
    clear hp00 hy00 hy01 hy10 hy11
    go_wp2
    go_loopg [6, 7] x3.toNat (fun kq v6 v64 w' => ∃ (i : Int) (xs : List Int) (p k : Int), v64 = .int .i64 i ∧ 0 ≤ i ∧ i + kq = x3 ∧ Aside0 ((-32768 ≤ p ∧ p ≤ 32767) ∧ 0 ≤ k ∧ k ≤ 88) ∧ Aside0 (xs.length = i.toNat) ∧ Aside0 (xs ++ vUn l0 kq i p k = R) ∧ Aside0 (Kd.R (Kd.int .i64) 3 w' w.heap.size (fun k => w1.heap.size ≤ k) v6 xs) ∧ Aside0 (IsS87 w1 w' g p k (vStepsL 89)) ∧ Aside0 (Below w1.heap.size w1 w'))
    case atStart => exact ⟨0, [], vP0 l0, x2, rfl, by omega, by omega, ⟨HBD.out, hk0, c3⟩, ⟨rfl⟩, HX0, ⟨Kd.R_nil _ _ _ _ _⟩, HI0, HB⟩
    case round =>
      clear HX0 HI0 HB HBD
      obtain ⟨i, xs, p, k, rfl, hi0, hik, HBD, HLN, HX, HO, HI0, HB⟩ := hrel
      have HLX : Aside0 (xs.length ≤ 300) := ⟨by have := HLN.out; omega⟩
      by_cases ci : i < x3
      · obtain ⟨q, rfl⟩ : ∃ q, gk = q + 1 := ⟨gk - 1, by omega⟩
        have cib : decide (i < x3) = true := decide_eq_true ci
        have hix0 : 0 ≤ 4 + i / 2 := by omega
        have hix1 : 4 + i / 2 < (l0.length : Int) := by have := HC4.out; omega
        obtain ⟨ad', e, hxi⟩ := Kd.at_int HR0.out (4 + i / 2) hix0 hix1
        cases e
        replace hxi := pw_cell_below HB.out (pw_cell_below HB2.out hxi)
        obtain ⟨hb0, hb1⟩ := vBytes_rd HY.out (4 + i / 2) hix0 hix1
        have HX1 := HX.out
        rw [vUn] at HX1
        obtain ⟨y, hy⟩ : ∃ y, rd l0 (4 + i / 2) = y := ⟨_, rfl⟩
        obtain ⟨cc, hcc⟩ : ∃ cc, vNib l0 i = cc := ⟨_, rfl⟩
        rw [hcc] at HX1
        have hcc' := hcc
        unfold vNib at hcc'
        rw [hy] at hxi hb0 hb1 hcc'
        have HX := Aside0.mk HX1
        clear HX1 hcc hy
        have hy16 : y / 16 % 16 = y / 16 := by omega
        have hcr : 0 ≤ cc ∧ cc < 16 := by rw [← hcc']; split <;> omega
        have HOK : Aside0 (wireglassref25_Coder_decode.f p k (vStepsL 89) cc = some (vP p (rd (vStepsL 89) k) cc, vP p (rd (vStepsL 89) k) cc, vK k cc)) := ⟨by unfold wireglassref25_Coder_decode.f; rw [if_pos (vOk_steps HBD.out.2.1 HBD.out.2.2 hcr.1 hcr.2 HBD.out.1.1 HBD.out.1.2)]⟩
        clear hcr
        by_cases cp : i % 2 = 0
        · rw [if_pos cp] at hcc'
          subst hcc'
          go_wp2_with (first
            | (go_at_call 48; (with_reducible refine (wireglassref25_Coder_decode.calls g p k (vStepsL 89) (y / 16) (vP p (rd (vStepsL 89) k) (y / 16)) (vP p (rd (vStepsL 89) k) (y / 16)) (vK k (y / 16)) w1 _ ?side1 ?side2 HOK.out).mono ?_); (case side1 => repeat (first | (with_reducible first | exact HI0.out | apply IsS87.alloc | apply IsS87.drewN | apply IsS87.drew) | exact HI0.out)); (case side2 => repeat (first | (with_reducible first | exact HB.out | apply below_alloc | apply pw_below_drewN | apply below_drew1) | exact HB.out)); rintro e w18 ⟨rfl, hi, hb, hk⟩; have n0_ := Aside0.mk (Kd.R_mono (Kd.R_keep (IsS87.apart (show IsS87 w1 _ g p k (vStepsL 89) from by repeat (first | (with_reducible first | exact HI0.out | apply IsS87.alloc | apply IsS87.drewN | apply IsS87.drew) | exact HI0.out)) (by (with_reducible repeat (first | apply Kd.R_alloc | apply Kd.R_drewN | apply Kd.R_drew)); exact HO.out) (by decide)) hk (fun _ h => h.2)) (fun _ h => h.1)); have n2_ := Aside0.mk hb; have n3_ := Aside0.mk hi; clear HO HB HI0; have HO := n0_; have HB := n2_; have HI0 := n3_; clear n0_ n2_ n3_ hb hk hi)
            | (at_builtin; refine Kd.R_append (Kd.int .i64) w.heap.size rfl (.tmp 104) (.tmp 109) 26 3 (.int .i64 0) 8 rfl Try.underlying26 info3 rfl (by decide) (by omega) _ xs (vP p (rd (vStepsL 89) k) (y / 16)) [.int .i64 (vP p (rd (vStepsL 89) k) (y / 16))] (fun k => w1.heap.size ≤ k) (fun _ => False) rfl rfl ?aP (fun _ hk => hk.elim) ?aF ?aO (Below.refl _ _) ?aS ?aL ?_; (case aP => exact rfl); (case aF => intro k_ hk_; have := HB.out.size; omega); (case aO => exact (by (with_reducible repeat (first | apply Kd.R_alloc | apply Kd.R_drewN | apply Kd.R_drew)); exact HO.out)); (case aS => have := HB.out.size; have := HB2.out.size; omega); (case aL => have := HLX.out; omega); intro v129 w19 ho hb hg hat; have n0_ := Aside0.mk (IsS87.grown (by repeat (first | (with_reducible first | exact HI0.out | apply IsS87.alloc | apply IsS87.drewN | apply IsS87.drew) | exact HI0.out)) hg (IsS87.own_ne HI0.out HO.out (by decide))); have n1_ := Aside0.mk (below_from_ HB.out hg (fun k_ e_ => HO.out.1 k_ e_)); have n3_ := Aside0.mk ho; clear HI0 HB HO; have HI0 := n0_; have HB := n1_; have HO := n3_; clear n0_ n1_ n3_ ho hb hg hat))
          go_roundg q
          case measure => omega
          case rel => exact ⟨i + 1, _, _, _, by go_num, by omega, by omega, ⟨vP_bd _ _ _, vK_bd _ _⟩, ⟨by have := HLN.out; rw [List.length_append, List.length_singleton]; omega⟩, ⟨by rw [List.append_assoc]; exact HX.out⟩, HO, HI0, HB⟩
        · rw [if_neg cp] at hcc'
          subst hcc'
          have cp1 : i % 2 = 1 := by omega
          clear hy16 cp
          go_wp2_with (first
            | (go_at_call 48; (with_reducible refine (wireglassref25_Coder_decode.calls g p k (vStepsL 89) (y % 16) (vP p (rd (vStepsL 89) k) (y % 16)) (vP p (rd (vStepsL 89) k) (y % 16)) (vK k (y % 16)) w1 _ ?side1 ?side2 HOK.out).mono ?_); (case side1 => repeat (first | (with_reducible first | exact HI0.out | apply IsS87.alloc | apply IsS87.drewN | apply IsS87.drew) | exact HI0.out)); (case side2 => repeat (first | (with_reducible first | exact HB.out | apply below_alloc | apply pw_below_drewN | apply below_drew1) | exact HB.out)); rintro e w18 ⟨rfl, hi, hb, hk⟩; have n0_ := Aside0.mk (Kd.R_mono (Kd.R_keep (IsS87.apart (show IsS87 w1 _ g p k (vStepsL 89) from by repeat (first | (with_reducible first | exact HI0.out | apply IsS87.alloc | apply IsS87.drewN | apply IsS87.drew) | exact HI0.out)) (by (with_reducible repeat (first | apply Kd.R_alloc | apply Kd.R_drewN | apply Kd.R_drew)); exact HO.out) (by decide)) hk (fun _ h => h.2)) (fun _ h => h.1)); have n2_ := Aside0.mk hb; have n3_ := Aside0.mk hi; clear HO HB HI0; have HO := n0_; have HB := n2_; have HI0 := n3_; clear n0_ n2_ n3_ hb hk hi)
            | (at_builtin; refine Kd.R_append (Kd.int .i64) w.heap.size rfl (.tmp 104) (.tmp 109) 26 3 (.int .i64 0) 8 rfl Try.underlying26 info3 rfl (by decide) (by omega) _ xs (vP p (rd (vStepsL 89) k) (y % 16)) [.int .i64 (vP p (rd (vStepsL 89) k) (y % 16))] (fun k => w1.heap.size ≤ k) (fun _ => False) rfl rfl ?aP (fun _ hk => hk.elim) ?aF ?aO (Below.refl _ _) ?aS ?aL ?_; (case aP => exact rfl); (case aF => intro k_ hk_; have := HB.out.size; omega); (case aO => exact (by (with_reducible repeat (first | apply Kd.R_alloc | apply Kd.R_drewN | apply Kd.R_drew)); exact HO.out)); (case aS => have := HB.out.size; have := HB2.out.size; omega); (case aL => have := HLX.out; omega); intro v129 w19 ho hb hg hat; have n0_ := Aside0.mk (IsS87.grown (by repeat (first | (with_reducible first | exact HI0.out | apply IsS87.alloc | apply IsS87.drewN | apply IsS87.drew) | exact HI0.out)) hg (IsS87.own_ne HI0.out HO.out (by decide))); have n1_ := Aside0.mk (below_from_ HB.out hg (fun k_ e_ => HO.out.1 k_ e_)); have n3_ := Aside0.mk ho; clear HI0 HB HO; have HI0 := n0_; have HB := n1_; have HO := n3_; clear n0_ n1_ n3_ ho hb hg hat))
          go_roundg q
          case measure => omega
          case rel => exact ⟨i + 1, _, _, _, by go_num, by omega, by omega, ⟨vP_bd _ _ _, vK_bd _ _⟩, ⟨by have := HLN.out; rw [List.length_append, List.length_singleton]; omega⟩, ⟨by rw [List.append_assoc]; exact HX.out⟩, HO, HI0, HB⟩
      · obtain rfl : i = x3 := by omega
        have hq : gk = 0 := by omega
        subst hq
        have HX1 := HX.out
        rw [vUn, List.append_nil] at HX1
        have cib : decide (i < i) = false := decide_eq_false (by omega)
        go_wp2
        go_ret2
        exact ⟨_, rfl, by rw [← HX1]; exact Kd.R_mono HO.out (fun _ _ => trivial), HB2.out.trans (HB.out.mono HB2.out.size)⟩
theorem wireglassref25_Unframe.calls (A0 : Option Addr) (c0 : Nat) (l0 : List Int) (r1 : List Int) (r2 : Int) (w : World) (hr0 : Kd.C (Kd.int .u8) w A0 l0.length l0) (hc0 : l0.length ≤ c0) (h : wireglassref25_Unframe.f l0 = some (r1, r2)) :
    Calls Try.prog 39 #[.slice A0 l0.length c0] w fun e w' => ∃ v0_ : Value, e = .returned (.tuple #[v0_, .int .i64 r2]) ∧ Kd.R (Kd.int .i64) 3 w' w.heap.size (fun _ => True) v0_ r1 ∧ Below w.heap.size w w' := by
  unfold wireglassref25_Unframe.f voice_Unframe.f at h
  cases hy : vBytes l0 with
  | false => rw [if_neg (by rw [hy]; decide)] at h; cases h
  | true =>
    rw [if_pos hy] at h
    cases hv : vUnOk l0 with
    | false =>
      rw [if_neg (by rw [hv]; decide)] at h
      simp only [Option.some.injEq, Prod.mk.injEq] at h
      obtain ⟨rfl, rfl⟩ := h
      exact rUnframe.fails A0 c0 l0 w hr0 hc0 hy hv
    | true =>
      rw [if_pos hv] at h
      simp only [Option.some.injEq, Prod.mk.injEq] at h
      obtain ⟨rfl, rfl⟩ := h
      exact rUnframe.does A0 c0 l0 w hr0 hc0 hy hv

/-! ### wireglassref25_sounds: function 24 -/
def wireglassref25_sounds.l0 : Nat → Int → List Int → Option (List Int × Bool)
  | 0, _, _ => none
  | k + 1, x1, x6 => if (x6.length : Int) < x1 then (if 0 ≤ (wrap64 ((x6.length : Int) - 1)) then (if (wrap64 ((x6.length : Int) - 1)) < (x6.length : Int) then (if x6.length < 17592186044416 then (wireglassref25_sounds.l0 k x1 (x6 ++ [rd x6 (wrap64 ((x6.length : Int) - 1))])) else (none)) else (none)) else (none)) else (if 0 ≤ x1 then (if x1 ≤ (x6.length : Int) then (some ((x6.take (x1 : Int).toNat), true)) else (none)) else (none))
def wireglassref25_sounds.f (k : Nat) (l0 : List Int) (a1 : Int) : Option (List Int × Bool) := (wireglassref25_Unframe.f l0).bind fun bt200 => (if bt200.2 = 0 then (wireglassref25_sounds.l0 k a1 bt200.1) else (some (([] : List Int), false)))
theorem wireglassref25_sounds.mono_l : ∀ k, (∀ y0 y1, LeO (wireglassref25_sounds.l0 k y0 y1) (wireglassref25_sounds.l0 (k + 1) y0 y1))
  | 0 => fun _ _ r h => by simp [wireglassref25_sounds.l0] at h
  | k + 1 => by
    have ih0 := wireglassref25_sounds.mono_l k
    · intro y0 y1
      unfold wireglassref25_sounds.l0
      repeat' first
      | (with_reducible exact ih0 _ _)
      | (with_reducible exact LeO.refl _)
      | (with_reducible exact LeO.none _)
      | (with_reducible refine LeO.ite ?_ ?_)
      | (with_reducible refine LeO.bind ?_ (fun _ => ?_))
      | exact ih0 _ _
      | exact LeO.none _
      | refine LeO.ite ?_ ?_
      | refine LeO.bind ?_ (fun _ => ?_)
theorem wireglassref25_sounds.mono : ∀ a0 a1 k, LeO (wireglassref25_sounds.f k a0 a1) (wireglassref25_sounds.f (k + 1) a0 a1) := by
  intro a0 a1 k
  have ih0 := wireglassref25_sounds.mono_l k
  unfold wireglassref25_sounds.f
  repeat' first
      | (with_reducible exact ih0 _ _)
      | (with_reducible exact LeO.refl _)
      | (with_reducible exact LeO.none _)
      | (with_reducible refine LeO.ite ?_ ?_)
      | (with_reducible refine LeO.bind ?_ (fun _ => ?_))
      | exact ih0 _ _
      | exact LeO.none _
      | refine LeO.ite ?_ ?_
      | refine LeO.bind ?_ (fun _ => ?_)
set_option maxHeartbeats 8000000 in
set_option maxRecDepth 100000 in
theorem wireglassref25_sounds.calls (k : Nat) (A0 : Option Addr) (c0 : Nat) (l0 : List Int) (a1 : Int) (r1 : List Int) (r2 : Bool) (w : World) (hr0 : Kd.C (Kd.int .u8) w A0 l0.length l0) (hc0 : l0.length ≤ c0) (h : wireglassref25_sounds.f k l0 a1 = some (r1, r2)) :
    Calls Try.prog 24 #[.slice A0 l0.length c0, .int .i64 a1] w fun e w' => ∃ v0_ : Value, e = .returned (.tuple #[v0_, .bool r2]) ∧ Kd.R (Kd.int .i64) 3 w' w.heap.size (fun _ => True) v0_ r1 ∧ Below w.heap.size w w' := by
  have HR0 := Aside0.mk hr0
  have HC0 := Aside0.mk hc0
  clear hr0 hc0
  have HB := Aside0.mk (Below.refl w.heap.size w)
  have H : ((wireglassref25_Unframe.f l0).bind fun bt200 => (if bt200.2 = 0 then (wireglassref25_sounds.l0 k a1 bt200.1) else (some (([] : List Int), false)))) = some (r1, r2) := h
  clear h
  replace H := Option.bind_eq_some_iff.mp H
  obtain ⟨⟨t200, t201⟩, A30, H⟩ := H
  replace H : (if t201 = 0 then (wireglassref25_sounds.l0 k a1 t200) else (some (([] : List Int), false))) = some (r1, r2) := H
  have A3 := Aside0.mk A30
  clear A30
  by_cases c4 : t201 = 0
  · rw [if_pos c4] at H
    have c4b0 : (t201 == 0) = true := beq_iff_eq.mpr c4
    have c4b1 : (t201 != 0) = false := bne_eq_false_iff_eq.mpr c4
    clear c4
    have H' := Aside0.mk H
    clear H
    go_enter Try.func24, Try.ntmps24
    go_wp2_with (first | ((with_reducible refine gate_callee (f := 39) rfl ?_); refine goesL_ (some 10) rfl rfl Try.func39 (by kernel_rfl) rfl #[.slice A0 l0.length c0] rfl (by (try simp only [List.map_toArray, List.map_cons, List.map_nil]); first | done | rfl | (simp only [List.length_drop, List.length_take]; rfl)) ?_; (with_reducible refine (wireglassref25_Unframe.calls _ _ l0 t200 t201 _ ?side1 ?side2 A3.out).mono ?_); (case side1 => repeat (first | exact HR0.out | (with_reducible refine Kd.C_alloc ?_ _) | (with_reducible refine Kd.C_drewN ?_ _) | (with_reducible refine Kd.C_drew ?_))); (case side2 => exact HC0.out); rintro e w5 ⟨v202, rfl, ho0, hb⟩; refine ⟨_, rfl, ?_⟩; have n0_ := Aside0.mk (Kd.R_lower ho0 (below_size (by repeat (first | (with_reducible first | exact HB.out | apply below_alloc | apply pw_below_drewN | apply below_drew1) | exact HB.out)))); have n1_ := Aside0.mk (below_step (by repeat (first | (with_reducible first | exact HB.out | apply below_alloc | apply pw_below_drewN | apply below_drew1) | exact HB.out)) hb); clear HB; have HO203 := n0_; have HB := n1_; clear n0_ n1_; (try clear hb); (try clear hb2); (try clear hk); (try clear hi); (try clear ho0)))
    go_loopg [6] k (fun kq v6 w' => ∃ (x6_1 : List Int), Aside0 (wireglassref25_sounds.l0 kq a1 x6_1 = some (r1, r2)) ∧ Aside0 (kq ≤ k) ∧ Aside0 (Kd.R (Kd.int .i64) 3 w' w.heap.size (fun _ => True) v6 x6_1) ∧ Aside0 (Below w.heap.size w w'))
    case atStart => exact ⟨(t200), H', ⟨Nat.le_refl _⟩, ⟨by (with_reducible repeat (first | apply Kd.R_alloc | apply Kd.R_drewN | apply Kd.R_drew)); exact HO203.out⟩, ⟨by repeat (first | (with_reducible first | exact HB.out | apply below_alloc | apply pw_below_drewN | apply below_drew1) | exact HB.out)⟩⟩
    case round =>
      clear H'
      try clear c2
      try clear p2
      try clear c3
      try clear c4
      try clear c4b0
      try clear c4b1
      obtain ⟨x6_1, HA, HK1, HO_6, HB⟩ := hrel
      cases gk with
      | zero => exact absurd HA.out (by simp [wireglassref25_sounds.l0])
      | succ k1 =>
        have H := HA.out
        clear HA
        simp only [wireglassref25_sounds.l0] at H
        by_cases c6 : (x6_1.length : Int) < a1
        · rw [if_pos c6] at H
          have c6b0 : decide ((x6_1.length : Int) < a1) = true := decide_eq_true c6
          clear c6
          obtain ⟨ji7, hji7⟩ : ∃ j_ : Int, (wrap64 ((x6_1.length : Int) - 1)) = j_ := ⟨_, rfl⟩
          replace H : (if 0 ≤ (ji7) then (if (ji7) < (x6_1.length : Int) then (if x6_1.length < 17592186044416 then (wireglassref25_sounds.l0 k1 a1 (x6_1 ++ [rd x6_1 (ji7)])) else (none)) else (none)) else (none)) = some (r1, r2) := by first | (rw [hji7] at H; exact H) | (simp only [hji7] at H ⊢; exact H)
          have hji7w : (IntKind.i64.wrap ((x6_1.length : Int) - 1)) = ji7 := (i64_w _).trans hji7
          by_cases c8 : 0 ≤ (ji7)
          · rw [if_pos c8] at H
            have c8b0 : decide (0 ≤ (ji7)) = true := decide_eq_true c8
            clear c8
            by_cases c9 : (ji7) < (x6_1.length : Int)
            · rw [if_pos c9] at H
              have c9b0 : decide ((ji7) < (x6_1.length : Int)) = true := decide_eq_true c9
              clear c9
              by_cases c10 : x6_1.length < 17592186044416
              · rw [if_pos c10] at H
                have LMc10 := Aside0.mk c10
                clear c10
                obtain ⟨y205, hy205⟩ : ∃ y_ : List Int, y_ = (x6_1 ++ [rd x6_1 (ji7)]) := ⟨_, rfl⟩
                replace H : (wireglassref25_sounds.l0 k1 a1 y205) = some (r1, r2) := by first | (rw [hy205]; with_reducible exact H) | (have H2_ := (Option.bind_some _ _).symm.trans H; rw [hy205]; with_reducible exact H2_) | (have H2_ := (Option.bind_some _ _).symm.trans H; with_reducible exact H2_) | with_reducible exact H | (rw [hy205]; exact H) | exact H
                have Ny205 := Aside0.mk hy205
                clear hy205
                have H' := Aside0.mk H
                clear H
                obtain ⟨Ao11, co11, eo11⟩ := Kd.R_slice HO_6.out
                subst eo11
                have p204 : 0 ≤ ((ji7) : Int) := of_decide_eq_true (by first | (with_reducible assumption) | assumption)
                have q204 : (ji7) < (x6_1.length : Int) := of_decide_eq_true (by first | (with_reducible assumption) | assumption)
                obtain ⟨ad204, e204, hx204_0⟩ := Kd.at_int (Kd.R_reads' HO_6.out).2.2 (ji7) p204 q204
                cases e204
                replace p204 := eq_true p204
                replace q204 := eq_true q204
                go_wp2_with (first | ((with_reducible refine gate_builtin (b := .append) (xs := #[.tmp 19, .tmp 26]) rfl ?_); at_builtin; refine Kd.R_append (Kd.int .i64) (w0 := w) w.heap.size rfl (.tmp 19) (.tmp 26) 26 3 (.int .i64 0) 8 rfl Try.underlying26 info3 rfl (by decide) (by omega) (.slice (some ad204) x6_1.length co11) x6_1 (rd x6_1 (ji7)) [.int .i64 (rd x6_1 (ji7))] (fun _ => True) (fun _ => False) rfl rfl ?aP (fun _ hk => hk.elim) ?aF ?aO ?aB ?aS ?aL ?_; (case aP => exact rfl); (case aB => exact (by repeat (first | (with_reducible first | exact HB.out | apply below_alloc | apply pw_below_drewN | apply below_drew1) | exact HB.out))); (case aF => exact (fun _ _ => trivial)); (case aO => exact (by (with_reducible repeat (first | apply Kd.R_alloc | apply Kd.R_drewN | apply Kd.R_drew)); exact HO_6.out)); (case aS => exact (below_size (by repeat (first | (with_reducible first | exact HB.out | apply below_alloc | apply pw_below_drewN | apply below_drew1) | exact HB.out)))); (case aL => have := LMc10.out; omega); intro v206 w12 ho hb hg hat; rw [← Ny205.out] at ho; have n0_ := Aside0.mk (hb); have n1_ := Aside0.mk (ho); clear HB; clear HO_6; have HB := n0_; have HO207 := n1_; clear n0_ n1_; clear ho hb hg hat))
                go_roundg k1
                case measure => have := HK1.out; omega
                case rel => exact ⟨(y205), H', ⟨by have := HK1.out; omega⟩, ⟨by (with_reducible repeat (first | apply Kd.R_alloc | apply Kd.R_drewN | apply Kd.R_drew)); exact HO207.out⟩, ⟨by repeat (first | (with_reducible first | exact HB.out | apply below_alloc | apply pw_below_drewN | apply below_drew1) | exact HB.out)⟩⟩
              · rw [if_neg c10] at H
                exact absurd H (by simp)
            · rw [if_neg c9] at H
              exact absurd H (by simp)
          · rw [if_neg c8] at H
            exact absurd H (by simp)
        · rw [if_neg c6] at H
          have c6b0 : decide ((x6_1.length : Int) < a1) = false := decide_eq_false c6
          clear c6
          by_cases c13 : 0 ≤ a1
          · rw [if_pos c13] at H
            have c13b0 := eq_true c13
            have c13b1 : decide (0 ≤ a1) = true := decide_eq_true c13
            clear c13
            by_cases c14 : a1 ≤ (x6_1.length : Int)
            · rw [if_pos c14] at H
              have c14b0 := eq_true c14
              have c14b1 : decide (a1 ≤ (x6_1.length : Int)) = true := decide_eq_true c14
              clear c14
              obtain ⟨y208, hy208⟩ : ∃ y_ : List Int, y_ = (x6_1.take (a1 : Int).toNat) := ⟨_, rfl⟩
              replace H : (some (y208, true)) = some (r1, r2) := by first | (rw [hy208]; with_reducible exact H) | (have H2_ := (Option.bind_some _ _).symm.trans H; rw [hy208]; with_reducible exact H2_) | (have H2_ := (Option.bind_some _ _).symm.trans H; with_reducible exact H2_) | with_reducible exact H | (rw [hy208]; exact H) | exact H
              have Ny208 := Aside0.mk hy208
              clear hy208
              simp only [Option.some.injEq, Prod.mk.injEq] at H
              obtain ⟨rfl, rfl⟩ := H
              obtain ⟨Ao15, co15, eo15⟩ := Kd.R_slice HO_6.out
              subst eo15
              have q16 : (a1 : Int) ≤ ((x6_1.length : Int) : Int) := of_decide_eq_true (by first | (with_reducible assumption) | assumption)
              obtain ⟨i016, hi016, _, hsz16, _⟩ := info_parts info3
              have hcut16 := cut_to (P := Try.prog) 26 3 .i64 Try.underlying26 hi016 Ao15 x6_1.length co15 a1 (of_decide_eq_true (by first | (with_reducible assumption) | assumption)) q16 (Kd.R_reads' HO_6.out).2.1
              have hr16 := Kd.R_take (m := (a1 : Int).toNat) HO_6.out (by omega)
              have hy16 : y208.length = (a1 : Int).toNat := (by rw [Ny208.out, List.length_take]; omega)
              rw [← Ny208.out] at hr16
              rw [← hy16] at hr16 hcut16
              clear hy16 hi016 hsz16 HO_6
              have HO210 := Aside0.mk hr16
              clear hr16
              replace q16 := eq_true q16
              go_wp2
              go_ret2
              exact ⟨_, by first | rfl | (simp [errW_none, errW_some] <;> rfl) | (simp [*, errW_none, errW_some] <;> rfl), by (with_reducible repeat (first | apply Kd.R_alloc | apply Kd.R_drewN | apply Kd.R_drew)); exact HO210.out, by repeat (first | (with_reducible first | exact HB.out | apply below_alloc | apply pw_below_drewN | apply below_drew1) | exact HB.out)⟩
            · rw [if_neg c14] at H
              exact absurd H (by simp)
          · rw [if_neg c13] at H
            exact absurd H (by simp)
  · rw [if_neg c4] at H
    have c4b0 : (t201 == 0) = false := beq_eq_false_iff_ne.mpr c4
    have c4b1 : (t201 != 0) = true := bne_iff_ne.mpr c4
    simp only [Option.some.injEq, Prod.mk.injEq] at H
    obtain ⟨rfl, rfl⟩ := H
    go_enter Try.func24, Try.ntmps24
    go_wp2_with (first | ((with_reducible refine gate_callee (f := 39) rfl ?_); refine goesL_ (some 10) rfl rfl Try.func39 (by kernel_rfl) rfl #[.slice A0 l0.length c0] rfl (by (try simp only [List.map_toArray, List.map_cons, List.map_nil]); first | done | rfl | (simp only [List.length_drop, List.length_take]; rfl)) ?_; (with_reducible refine (wireglassref25_Unframe.calls _ _ l0 t200 t201 _ ?side1 ?side2 A3.out).mono ?_); (case side1 => repeat (first | exact HR0.out | (with_reducible refine Kd.C_alloc ?_ _) | (with_reducible refine Kd.C_drewN ?_ _) | (with_reducible refine Kd.C_drew ?_))); (case side2 => exact HC0.out); rintro e w17 ⟨v202, rfl, ho0, hb⟩; refine ⟨_, rfl, ?_⟩; have n0_ := Aside0.mk (Kd.R_lower ho0 (below_size (by repeat (first | (with_reducible first | exact HB.out | apply below_alloc | apply pw_below_drewN | apply below_drew1) | exact HB.out)))); have n1_ := Aside0.mk (below_step (by repeat (first | (with_reducible first | exact HB.out | apply below_alloc | apply pw_below_drewN | apply below_drew1) | exact HB.out)) hb); clear HB; have HO203 := n0_; have HB := n1_; clear n0_ n1_; (try clear hb); (try clear hb2); (try clear hk); (try clear hi); (try clear ho0)))
    go_ret2
    exact ⟨_, by first | rfl | (simp [errW_none, errW_some] <;> rfl) | (simp [*, errW_none, errW_some] <;> rfl), by first | exact Kd.R_nil _ _ _ _ _ | exact Kd.N_nil _ _ _ _ _ | exact Kd.V_nil _ _ _ _ _ | exact Kd.Q_nil _ _ _ _ _ | exact Kd.S_nil _ _ _ _ _, by repeat (first | (with_reducible first | exact HB.out | apply below_alloc | apply pw_below_drewN | apply below_drew1) | exact HB.out)⟩

end Go.Proofs.Ytcinmodpfdehpaa.P
