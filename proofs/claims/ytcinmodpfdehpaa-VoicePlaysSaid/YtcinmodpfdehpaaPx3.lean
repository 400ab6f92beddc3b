/- Laid by a program of this repo over the translation: each Go function as a plain Lean function with the proof that the call comes to its answers, or a statement's row out of these; conditions: the hypotheses of each theorem. -/
import Derived.Test.YtcinmodpfdehpaaPx0
namespace Go.Proofs.Ytcinmodpfdehpaa.P
open Go.RowKit Go.Proofs.YtcinmodpfdehpaaW.PrintWords Go.Proofs.YtcinmodpfdehpaaW.PrintLast Go.Proofs.YtcinmodpfdehpaaW.PrintMore
attribute [local go_sem] max2_int min2_int max_two min_two max_three min_three max_four min_four   -- for this text's walks alone
set_option linter.unusedVariables false
set_option linter.unusedSimpArgs false

/-! ### voice_asked: function 16 -/
-- EXT rounds=0 making=1
def sOk (x : S39) : Bool := decide ((0 ≤ x.f0 ∧ x.f0 ≤ 65535) ∧ (0 ≤ x.f1 ∧ x.f1 ≤ 4294967295) ∧ (0 ≤ x.f2 ∧ x.f2 ≤ 1000000000000000))
def sIdx : List S39 → Int → Int
  | [], _ => -1
  | x :: r, i => if sOk x = true then sIdx r (i + 1) else i
theorem ret_b {a b : Bool} (h : a = b) : Ending.returned (.bool a) = .returned (.bool b) := by rw [h]
theorem sIdx_all : ∀ (l : List S39) (i : Int), 0 ≤ i → decide (0 ≤ sIdx l i) = !(l.all sOk)
  | [], i, _ => rfl
  | x :: r, i, h => by
    simp only [sIdx, List.all_cons]
    by_cases c : sOk x = true
    · simp only [c, if_true, Bool.true_and]; exact sIdx_all r (i + 1) (by omega)
    · have : sOk x = false := by simpa using c
      simp [this, h]
set_option maxHeartbeats 4000000 in
theorem voice_sbad.calls (x : S39) (A3 : Option Addr) (c3 : Nat) (w : World) : Calls Try.prog 35 #[.agg #[.int .i64 x.f0, .int .i64 x.f1, .int .i64 x.f2, .slice A3 x.f3.length c3]] w fun e w' => e = .returned (.bool (!(sOk x))) ∧ Below w.heap.size w w' := by
  obtain ⟨a, b, c, d⟩ := x
  have HS : Aside0 (sOk ⟨a, b, c, d⟩ = decide ((0 ≤ a ∧ a ≤ 65535) ∧ (0 ≤ b ∧ b ≤ 4294967295) ∧ (0 ≤ c ∧ c ≤ 1000000000000000))) := ⟨rfl⟩
  rw [HS.out]
  obtain ⟨r, hr⟩ : ∃ r, decide ((0 ≤ a ∧ a ≤ 65535) ∧ (0 ≤ b ∧ b ≤ 4294967295) ∧ (0 ≤ c ∧ c ≤ 1000000000000000)) = r := ⟨_, rfl⟩
  have HR := Aside0.mk hr
  rw [hr]
  clear hr
  go_enter Try.func35, Try.ntmps35
  go_wp2
  all_goals (go_ret; refine ⟨ret_b ?_, below_alloc (Below.refl _ _) _⟩; rw [← HR.out, Bool.eq_iff_iff]; simp; omega)
set_option maxHeartbeats 4000000 in
theorem voice_sidx.calls (A0 : Option Addr) (c0 : Nat) (l0 : List S39) (w : World) (hr0 : Kd.C k39 w A0 l0.length l0) (_hc0 : l0.length ≤ c0) :
    Calls Try.prog 46 #[.slice A0 l0.length c0, .func (.func 35) #[] #[]] w fun e w' => e = .returned (.int .i64 (sIdx l0 0)) ∧ Below w.heap.size w w' := by
  have hm := Kd.C_max hr0
  have HR0 := Aside0.mk hr0
  clear hr0
  obtain ⟨R, hR⟩ : ∃ R, sIdx l0 0 = R := ⟨_, rfl⟩
  rw [hR]
  have H' := Aside0.mk hR
  clear hR
  go_enter Try.func46, Try.ntmps46
  go_wp2
  go_loopg [8] l0.length (fun kq v8 w' => ∃ i : Int, v8 = .int .i64 i ∧ 0 ≤ i ∧ i ≤ l0.length ∧ i + kq = l0.length ∧ Aside0 (sIdx (l0.drop i.toNat) i = R) ∧ Aside0 (Below w.heap.size w w'))
  case atStart => exact ⟨0, rfl, by omega, by omega, by omega, H', ⟨Below.refl _ _⟩⟩
  case round =>
    clear H'
    obtain ⟨i, rfl, h0, h1, hk, HA, HB⟩ := hrel
    by_cases c : i < (l0.length : Int)
    · obtain ⟨ad, A3, c3, e, y0, y1, y2, y3, _, _⟩ := at_T39 (Kd.C_below HR0.out HB.out) i h0 c
      cases e
      have hd : l0.drop i.toNat = rd_T39 l0 i :: l0.drop (i + 1).toNat := by
        rw [show (i + 1).toNat = i.toNat + 1 by omega, List.drop_eq_getElem_cons (by omega : i.toNat < l0.length)]
        congr 1
        unfold rd_T39
        rw [List.getD_eq_getElem?_getD, List.getElem?_eq_getElem (by omega : i.toNat < l0.length)]; rfl
      obtain ⟨x, hx⟩ : ∃ x, rd_T39 l0 i = x := ⟨_, rfl⟩
      rw [hx] at y0 y1 y2 y3 hd
      have HA2 := HA.out
      clear HA hx
      rw [hd, sIdx] at HA2
      clear hd
      have hw : IntKind.i64.wrap (i + 1) = i + 1 := by rw [IntKind.wrap_i64]; omega
      cases hv : sOk x with
      | true =>
        rw [if_pos hv] at HA2
        have H' := Aside0.mk HA2
        clear HA2
        obtain ⟨q, rfl⟩ : ∃ q, gk = q + 1 := ⟨gk - 1, by omega⟩
        have HV := Aside0.mk hv
        clear hv hw
        go_wp2_with (go_at_call 35; (with_reducible refine (voice_sbad.calls x _ _ _).mono ?_); rintro e w' ⟨rfl, hb⟩; have HB1 := Aside0.mk (HB.out.trans (hb.mono HB.out.size)); clear hb; have hv2 := HV.out; rw [hv2]; clear hv2)
        go_roundg q
        case measure => omega
        case rel => exact ⟨i + 1, rfl, by omega, by omega, by omega, H', HB1⟩
      | false =>
        rw [if_neg (by simp [hv])] at HA2
        subst HA2
        have HV := Aside0.mk hv
        clear hv hw
        go_wp2_with (go_at_call 35; (with_reducible refine (voice_sbad.calls x _ _ _).mono ?_); rintro e w' ⟨rfl, hb⟩; have HB1 := Aside0.mk (HB.out.trans (hb.mono HB.out.size)); clear hb; have hv2 := HV.out; rw [hv2]; clear hv2)
        go_ret
        exact ⟨rfl, HB1.out⟩
    · have hd : l0.drop i.toNat = [] := List.drop_eq_nil_of_le (by omega)
      have HA2 := HA.out
      clear HA
      rw [hd, sIdx] at HA2
      subst HA2
      clear hd
      go_wp2
      go_ret
      exact ⟨rfl, HB.out⟩
theorem voice_scontains.calls (A0 : Option Addr) (c0 : Nat) (l0 : List S39) (w : World) (hr0 : Kd.C k39 w A0 l0.length l0) (hc0 : l0.length ≤ c0) :
    Calls Try.prog 34 #[.slice A0 l0.length c0, .func (.func 35) #[] #[]] w fun e w' => e = .returned (.bool (!(l0.all sOk))) ∧ Below w.heap.size w w' := by
  have HE := Aside0.mk (sIdx_all l0 0 (by omega))
  have HR0 := Aside0.mk hr0
  have HC0 := Aside0.mk hc0
  clear hr0 hc0
  go_enter Try.func34, Try.ntmps34
  go_wp2_with (go_at_call 46; (with_reducible refine (voice_sidx.calls A0 c0 l0 _ HR0.out HC0.out).mono ?_); rintro e w' ⟨rfl, hb⟩; have HB1 := Aside0.mk hb; clear hb)
  go_ret
  exact ⟨congrArg (fun b => Ending.returned (.bool b)) HE.out, HB1.out⟩
def voice_asked.f (l0 : List S39) (a1 : Int) : Option Int := some (if (l0.length : Int) > 200 then 3 else if a1 < 1 then 1 else if a1 > 1000000 then 1 else if l0.all sOk = true then 0 else 1)
set_option maxHeartbeats 4000000 in
theorem voice_asked.calls (A0 : Option Addr) (c0 : Nat) (l0 : List S39) (a1 : Int) (r : Int) (w : World) (hr0 : Kd.C k39 w A0 l0.length l0) (hc0 : l0.length ≤ c0) (h : voice_asked.f l0 a1 = some r) :
    Calls Try.prog 16 #[.slice A0 l0.length c0, .int .i64 a1] w fun e w' => e = .returned (.int .i64 r) ∧ Below w.heap.size w w' := by
  have h := Option.some.inj h
  have HR0 := Aside0.mk hr0
  have HC0 := Aside0.mk hc0
  have hm := Kd.C_max hr0
  clear hr0 hc0
  obtain ⟨N, hN⟩ : ∃ N, l0.length = N := ⟨_, rfl⟩
  rw [hN] at h hm ⊢
  have HN := Aside0.mk hN
  clear hN
  by_cases q1 : (N : Int) > 200
  · have b1 : decide (200 < (N : Int)) = true := decide_eq_true q1
    have b2 : decide (200 < N) = true := decide_eq_true (by omega)
    rw [if_pos q1] at h
    subst h
    go_enter Try.func16, Try.ntmps16
    go_wp2
    go_ret
    exact ⟨rfl, Below.refl _ _⟩
  have b1 : decide (200 < (N : Int)) = false := decide_eq_false q1
  have b2 : decide (200 < N) = false := decide_eq_false (by omega)
  rw [if_neg q1] at h
  by_cases q2 : a1 < 1
  · have b3 : decide (a1 < 1) = true := decide_eq_true q2
    rw [if_pos q2] at h
    subst h
    go_enter Try.func16, Try.ntmps16
    go_wp2
    go_ret
    exact ⟨rfl, Below.refl _ _⟩
  have b3 : decide (a1 < 1) = false := decide_eq_false q2
  rw [if_neg q2] at h
  by_cases q3 : a1 > 1000000
  · have b4 : decide (1000000 < a1) = true := decide_eq_true q3
    rw [if_pos q3] at h
    subst h
    go_enter Try.func16, Try.ntmps16
    go_wp2
    go_ret
    exact ⟨rfl, Below.refl _ _⟩
  have b4 : decide (1000000 < a1) = false := decide_eq_false q3
  rw [if_neg q3] at h
  have HCC : Aside0 (∀ w', Kd.C k39 w' A0 l0.length l0 → Calls Try.prog 34 #[.slice A0 N c0, .func (.func 35) #[] #[]] w' fun e w'' => e = .returned (.bool (!(l0.all sOk))) ∧ Below w'.heap.size w' w'') := ⟨fun w' h => by rw [← HN.out]; exact voice_scontains.calls A0 c0 l0 w' h HC0.out⟩
  cases hv : l0.all sOk with
  | true =>
    rw [if_pos hv] at h
    subst h
    have HV := Aside0.mk hv
    clear hv q1 q2 q3
    go_enter Try.func16, Try.ntmps16
    go_wp2_with (go_at_call 34; (with_reducible refine (HCC.out _ HR0.out).mono ?_); rintro e w' ⟨rfl, hb⟩; have HB1 := Aside0.mk hb; clear hb; have hv2 := HV.out; rw [hv2]; clear hv2)
    go_ret
    exact ⟨rfl, HB1.out⟩
  | false =>
    rw [if_neg (by simp [hv])] at h
    subst h
    have HV := Aside0.mk hv
    clear hv q1 q2 q3
    go_enter Try.func16, Try.ntmps16
    go_wp2_with (go_at_call 34; (with_reducible refine (HCC.out _ HR0.out).mono ?_); rintro e w' ⟨rfl, hb⟩; have HB1 := Aside0.mk hb; clear hb; have hv2 := HV.out; rw [hv2]; clear hv2)
    go_ret
    exact ⟨rfl, HB1.out⟩

/-! ### voice_near: function 26 -/
def voice_near.f (a0 : Int) (a1 : Int) : Option (Int) := if a1 = 0 then (none) else (if (Int.tmod (wrap64 ((Int.tmod a0 a1) + a1)) a1) ≥ (wrap64 (Int.tdiv a1 2)) then (some (wrap64 ((Int.tmod (wrap64 ((Int.tmod a0 a1) + a1)) a1) - a1))) else (some (Int.tmod (wrap64 ((Int.tmod a0 a1) + a1)) a1)))
set_option maxHeartbeats 8000000 in
set_option maxRecDepth 100000 in
theorem voice_near.calls (a0 : Int) (a1 : Int) (r : Int) (w : World) (h : voice_near.f a0 a1 = some r) :
    Calls Try.prog 26 #[.int .i64 a0, .int .i64 a1] w fun e w' => e = .returned (.int .i64 r) ∧ Drawn0 w w' := by
  have H : (if a1 = 0 then (none) else (if (Int.tmod (wrap64 ((Int.tmod a0 a1) + a1)) a1) ≥ (wrap64 (Int.tdiv a1 2)) then (some (wrap64 ((Int.tmod (wrap64 ((Int.tmod a0 a1) + a1)) a1) - a1))) else (some (Int.tmod (wrap64 ((Int.tmod a0 a1) + a1)) a1)))) = some r := h
  clear h
  by_cases c3 : a1 = 0
  · rw [if_pos c3] at H
    exact absurd H (by simp)
  · rw [if_neg c3] at H
    have c3b0 : (a1 == 0) = false := beq_eq_false_iff_ne.mpr c3
    have c3b1 : (a1 != 0) = true := bne_iff_ne.mpr c3
    by_cases c4 : (Int.tmod (wrap64 ((Int.tmod a0 a1) + a1)) a1) ≥ (wrap64 (Int.tdiv a1 2))
    · rw [if_pos c4] at H
      have c4b0 : decide ((wrap64 (Int.tdiv a1 2)) ≤ (Int.tmod (wrap64 ((Int.tmod a0 a1) + a1)) a1)) = true := decide_eq_true c4
      clear c4
      obtain rfl := Option.some.inj H
      go_enter Try.func26, Try.ntmps26
      go_wp2
      go_ret
      exact ⟨by first | rfl | (simp; done) | (simp [*]; done), by repeat (first | exact Drawn0.refl _ | apply Drawn0.step)⟩
    · rw [if_neg c4] at H
      have c4b0 : decide ((wrap64 (Int.tdiv a1 2)) ≤ (Int.tmod (wrap64 ((Int.tmod a0 a1) + a1)) a1)) = false := decide_eq_false c4
      clear c4
      obtain rfl := Option.some.inj H
      go_enter Try.func26, Try.ntmps26
      go_wp2
      go_ret
      exact ⟨by first | rfl | (simp; done) | (simp [*]; done), by repeat (first | exact Drawn0.refl _ | apply Drawn0.step)⟩

/-! ### voice_numbers: function 17 -/
def voice_numbers.l0 : Nat → List (S39) → List Int → Int → List (S39) → Int → Int → Option (List Int)
  | 0, _, _, _, _, _, _ => none
  | k + 1, x0, x3, x4, x8, x9, x10 => if x10 < x9 then (if 0 ≤ x10 then (if x10 < (x8.length : Int) then (if x10 > 0 then (if 0 < (x0.length : Int) then ((voice_near.f (wrap64 (((rd_T39 x8 x10).f0) - (wrap64 (((rd_T39 x0 0).f0) + x4)))) 65536).bind fun t149 => (if x3.length < 17592186044416 then (voice_numbers.l0 k x0 (x3 ++ [wrap64 (x4 + t149)]) (mx x4 (wrap64 (x4 + t149))) x8 x9 (wrap64 (x10 + 1))) else (none))) else (none)) else (if x3.length < 17592186044416 then (voice_numbers.l0 k x0 (x3 ++ [0]) (mx x4 0) x8 x9 (wrap64 (x10 + 1))) else (none))) else (none)) else (none)) else (some x3)
def voice_numbers.f (k : Nat) (l0 : List (S39)) : Option (List Int) := voice_numbers.l0 k l0 ([] : List Int) 0 l0 (l0.length : Int) 0
theorem voice_numbers.mono_l : ∀ k, (∀ y0 y1 y2 y3 y4 y5, LeO (voice_numbers.l0 k y0 y1 y2 y3 y4 y5) (voice_numbers.l0 (k + 1) y0 y1 y2 y3 y4 y5))
  | 0 => fun _ _ _ _ _ _ r h => by simp [voice_numbers.l0] at h
  | k + 1 => by
    have ih0 := voice_numbers.mono_l k
    · intro y0 y1 y2 y3 y4 y5
      unfold voice_numbers.l0
      repeat' first
      | (with_reducible exact ih0 _ _ _ _ _ _)
      | (with_reducible exact LeO.refl _)
      | (with_reducible exact LeO.none _)
      | (with_reducible refine LeO.ite ?_ ?_)
      | (with_reducible refine LeO.bind ?_ (fun _ => ?_))
      | exact ih0 _ _ _ _ _ _
      | exact LeO.none _
      | refine LeO.ite ?_ ?_
      | refine LeO.bind ?_ (fun _ => ?_)
theorem voice_numbers.mono : ∀ a0 k, LeO (voice_numbers.f k a0) (voice_numbers.f (k + 1) a0) := by
  intro a0 k
  have ih0 := voice_numbers.mono_l k
  unfold voice_numbers.f
  repeat' first
      | (with_reducible exact ih0 _ _ _ _ _ _)
      | (with_reducible exact LeO.refl _)
      | (with_reducible exact LeO.none _)
      | (with_reducible refine LeO.ite ?_ ?_)
      | (with_reducible refine LeO.bind ?_ (fun _ => ?_))
      | exact ih0 _ _ _ _ _ _
      | exact LeO.none _
      | refine LeO.ite ?_ ?_
      | refine LeO.bind ?_ (fun _ => ?_)
def voice_numbers.T8 : Bool × List (List Nat × List Nat) := (true, [([], []), ([], []), ([1], [1]), ([], []), ([3], [3]), ([4], [4]), ([5], [5]), ([], []), ([6, 7], [6, 7]), ([2, 8], [2, 8]), ([9], [9]), ([0, 10], [0, 10]), ([11, 10, 0, 1, 2, 3, 4, 5, 6, 7, 8, 9, 10, 11], [11])])
def voice_numbers.B8 : List Nat := [0, 0, 2, 0, 8, 24, 56, 0, 248, 510, 1022, 2047, 4095]
theorem voice_numbers.tab8 : rtab .any (opsOf Try.f17 8) = voice_numbers.T8 := by kernel_rfl
theorem voice_numbers.bits8 : waitsOk voice_numbers.T8.2 voice_numbers.B8 = true := by kernel_rfl
set_option maxHeartbeats 8000000 in
set_option maxRecDepth 100000 in
theorem voice_numbers.calls (k : Nat) (A0 : Option Addr) (c0 : Nat) (l0 : List (S39)) (r : List Int) (w : World) (hr0 : Kd.C k39 w A0 l0.length l0) (hc0 : l0.length ≤ c0) (h : voice_numbers.f k l0 = some r) :
    Calls Try.prog 17 #[.slice A0 l0.length c0] w fun e w' => ∃ v0_ : Value, e = .returned (v0_) ∧ Kd.R (Kd.int .i64) 3 w' w.heap.size (fun _ => True) v0_ r ∧ Below w.heap.size w w' := by
  have hu39 := Try.underlying39
  have HR0 := Aside0.mk hr0
  have HC0 := Aside0.mk hc0
  clear hr0 hc0
  have HB := Aside0.mk (Below.refl w.heap.size w)
  have H : (voice_numbers.l0 k l0 ([] : List Int) 0 l0 (l0.length : Int) 0) = some r := h
  clear h
  have H' := Aside0.mk H
  clear H
  go_enter Try.func17, Try.ntmps17
  go_wp2
  go_loopg [3, 4, 10] k (fun kq v3 v4 v10 w' => ∃ (x3_1 : List Int) (x4_1 : Int) (x10_1 : Int), v4 = .int .i64 x4_1 ∧ v10 = .int .i64 x10_1 ∧ Aside0 (voice_numbers.l0 kq l0 x3_1 x4_1 l0 (l0.length : Int) x10_1 = some r) ∧ Aside0 (kq ≤ k) ∧ Aside0 (Kd.R (Kd.int .i64) 3 w' w.heap.size (fun _ => True) v3 x3_1) ∧ Aside0 (Below w.heap.size w w'))
  case atStart => exact ⟨(([] : List Int)), (0), (0), (by first | rfl | (simp; done) | (simp [*]; done)), (by first | rfl | (simp; done) | (simp [*]; done)), H', ⟨Nat.le_refl _⟩, ⟨by first | exact Kd.R_nil _ _ _ _ _ | exact Kd.N_nil _ _ _ _ _ | exact Kd.V_nil _ _ _ _ _ | exact Kd.Q_nil _ _ _ _ _ | exact Kd.S_nil _ _ _ _ _⟩, ⟨by repeat (first | (with_reducible first | exact HB.out | apply below_alloc | apply pw_below_drewN | apply below_drew1) | exact HB.out)⟩⟩
  case round =>
    clear H'
    try clear c1
    obtain ⟨x3_1, x4_1, x10_1, rfl, rfl, HA, HK1, HO_3, HB⟩ := hrel
    cases gk with
    | zero => exact absurd HA.out (by simp [voice_numbers.l0])
    | succ k1 =>
      have H := HA.out
      clear HA
      simp only [voice_numbers.l0] at H
      by_cases c2 : x10_1 < (l0.length : Int)
      · rw [if_pos c2] at H
        have c2b0 : decide (x10_1 < (l0.length : Int)) = true := decide_eq_true c2
        clear c2
        by_cases c3 : 0 ≤ x10_1
        · rw [if_pos c3] at H
          have c3b0 : decide (0 ≤ x10_1) = true := decide_eq_true c3
          clear c3
          by_cases c4 : x10_1 < (l0.length : Int)
          · rw [if_pos c4] at H
            have c4b0 : decide (x10_1 < (l0.length : Int)) = true := decide_eq_true c4
            clear c4
            by_cases c5 : x10_1 > 0
            · rw [if_pos c5] at H
              have c5b0 : decide (0 < x10_1) = true := decide_eq_true c5
              clear c5
              by_cases c6 : 0 < (l0.length : Int)
              · rw [if_pos c6] at H
                have c6b0 : decide (0 < (l0.length : Int)) = true := decide_eq_true c6
                have c6b1 : decide (0 < l0.length) = true := decide_eq_true (by omega)
                clear c6
                replace H := Option.bind_eq_some_iff.mp H
                obtain ⟨t149, A70, H⟩ := H
                replace H : (if x3_1.length < 17592186044416 then (voice_numbers.l0 k1 l0 (x3_1 ++ [wrap64 (x4_1 + t149)]) (mx x4_1 (wrap64 (x4_1 + t149))) l0 (l0.length : Int) (wrap64 (x10_1 + 1))) else (none)) = some r := H
                have A7 := Aside0.mk A70
                clear A70
                obtain ⟨ji8, hji8⟩ : ∃ j_ : Int, (mx x4_1 (wrap64 (x4_1 + t149))) = j_ := ⟨_, rfl⟩
                replace H : (if x3_1.length < 17592186044416 then (voice_numbers.l0 k1 l0 (x3_1 ++ [wrap64 (x4_1 + t149)]) ji8 l0 (l0.length : Int) (wrap64 (x10_1 + 1))) else (none)) = some r := by first | (rw [hji8] at H; exact H) | (simp only [hji8] at H ⊢; exact H)
                (try rw [hji8] at A7)
                have hji8_ : (if x4_1 < (wrap64 (x4_1 + t149)) then (wrap64 (x4_1 + t149)) else x4_1) = ji8 := hji8
                by_cases c9 : x3_1.length < 17592186044416
                · rw [if_pos c9] at H
                  have LMc9 := Aside0.mk c9
                  clear c9
                  obtain ⟨y150, hy150⟩ : ∃ y_ : List Int, y_ = (x3_1 ++ [wrap64 (x4_1 + t149)]) := ⟨_, rfl⟩
                  replace H : (voice_numbers.l0 k1 l0 y150 ji8 l0 (l0.length : Int) (wrap64 (x10_1 + 1))) = some r := by first | (rw [hy150]; with_reducible exact H) | (have H2_ := (Option.bind_some _ _).symm.trans H; rw [hy150]; with_reducible exact H2_) | (have H2_ := (Option.bind_some _ _).symm.trans H; with_reducible exact H2_) | with_reducible exact H | (rw [hy150]; exact H) | exact H
                  have Ny150 := Aside0.mk hy150
                  clear hy150
                  have H' := Aside0.mk H
                  clear H
                  have p146 : 0 ≤ (x10_1 : Int) := of_decide_eq_true (by first | (with_reducible assumption) | assumption)
                  have q146 : x10_1 < (l0.length : Int) := of_decide_eq_true (by first | (with_reducible assumption) | assumption)
                  obtain ⟨ad146, A146_3, c146_3, e146, hx146_0, hx146_1, hx146_2, hx146_3, hl146_3, hi146_3⟩ := at_T39 HR0.out x10_1 p146 q146
                  cases e146
                  replace hx146_0 := (HB.out.cell (World.block_lt_of_cell? w _ hx146_0)).trans hx146_0
                  replace hx146_1 := (HB.out.cell (World.block_lt_of_cell? w _ hx146_1)).trans hx146_1
                  replace hx146_2 := (HB.out.cell (World.block_lt_of_cell? w _ hx146_2)).trans hx146_2
                  replace hx146_3 := (HB.out.cell (World.block_lt_of_cell? w _ hx146_3)).trans hx146_3
                  have HR146_3 := Aside0.mk hi146_3
                  have HC146_3 := Aside0.mk hl146_3
                  clear hi146_3 hl146_3
                  replace p146 := eq_true p146
                  replace q146 := eq_true q146
                  try go_wp2_with (first | ((with_reducible refine gate_dst (N := 6) rfl ?_); refine box_event ?hg (N := 6) ?hd (cs := #[.int .i64 0, .int .i64 0, .int .i64 0, .slice none 0 0]) (t := 39) ?hr ?_; (case hd => rfl); (case hg => rfl); (case hr => first | (go_simp; done) | (go_simp; rfl)); intro gb147 hg w10 hbox hb; have n0_ := Aside0.mk (Kd.R_below (by (with_reducible repeat (first | apply Kd.R_alloc | apply Kd.R_drewN | apply Kd.R_drew)); exact HO_3.out) hb); have n1_ := Aside0.mk (below_step (by repeat (first | (with_reducible first | exact HB.out | apply below_alloc | apply pw_below_drewN | apply below_drew1) | exact HB.out)) hb); have n2_ := Aside0.mk (hbox); have n3_ := Aside0.mk ((by rw [hg]; exact (below_size (by repeat (first | (with_reducible first | exact HB.out | apply below_alloc | apply pw_below_drewN | apply below_drew1) | exact HB.out))) : w.heap.size ≤ gb147)); have n4_ := Aside0.mk ((by rw [hg]; exact (below_size (by repeat (first | (with_reducible first | exact HB.out | apply below_alloc | apply pw_below_drewN | apply below_drew1) | exact HB.out))) : w.heap.size ≤ gb147)); clear HO_3; clear HB; have HO_3 := n0_; have HB := n1_; have BK147 := n2_; have GW147 := n3_; have GE147 := n4_; clear n0_ n1_ n2_ n3_ n4_; clear hb hbox hg; have hcz11_0 : w10.cell? ⟨gb147, 0, none⟩ = some (.int .i64 0) := (blk_cell BK147.out 0).trans rfl; have hcz11_1 : w10.cell? ⟨gb147, 1, none⟩ = some (.int .i64 0) := (blk_cell BK147.out 1).trans rfl; have hcz11_2 : w10.cell? ⟨gb147, 2, none⟩ = some (.int .i64 0) := (blk_cell BK147.out 2).trans rfl; have hcz11_3 : w10.cell? ⟨gb147, 3, none⟩ = some (.slice none 0 0) := (blk_cell BK147.out 3).trans rfl; have hfz11_0 := blk_frozen BK147.out 0; have hfz11_1 := blk_frozen BK147.out 1; have hfz11_2 := blk_frozen BK147.out 2; have hfz11_3 := blk_frozen BK147.out 3))
                  have n0_ : Aside0 (Kd.R (Kd.int .i64) 3 ((((w10.setCell ⟨gb147, 0, none⟩ (.int .i64 ((rd_T39 l0 x10_1).f0))).setCell ⟨gb147, 1, none⟩ (.int .i64 ((rd_T39 l0 x10_1).f1))).setCell ⟨gb147, 2, none⟩ (.int .i64 ((rd_T39 l0 x10_1).f2))).setCell ⟨gb147, 3, none⟩ (.slice A146_3 ((rd_T39 l0 x10_1).f3).length c146_3)) w.heap.size (fun _ => True) u3 x3_1) := ⟨by (with_reducible repeat (first | apply Kd.R_alloc | apply Kd.R_drewN | apply Kd.R_drew)); exact Kd.R_mono (Kd.R_far (p := ⟨gb147, 3, none⟩) (Kd.R_far (p := ⟨gb147, 2, none⟩) (Kd.R_far (p := ⟨gb147, 1, none⟩) (Kd.R_far (p := ⟨gb147, 0, none⟩) (Kd.R_types HO_3.out BK147.out (by decide)) (fun _ hk => hk.2) (.int .i64 ((rd_T39 l0 x10_1).f0))) (fun _ hk => hk.2) (.int .i64 ((rd_T39 l0 x10_1).f1))) (fun _ hk => hk.2) (.int .i64 ((rd_T39 l0 x10_1).f2))) (fun _ hk => hk.2) (.slice A146_3 ((rd_T39 l0 x10_1).f3).length c146_3)) (fun _ hk => trivial)⟩
                  have n1_ : Aside0 (((((w10.setCell ⟨gb147, 0, none⟩ (.int .i64 ((rd_T39 l0 x10_1).f0))).setCell ⟨gb147, 1, none⟩ (.int .i64 ((rd_T39 l0 x10_1).f1))).setCell ⟨gb147, 2, none⟩ (.int .i64 ((rd_T39 l0 x10_1).f2))).setCell ⟨gb147, 3, none⟩ (.slice A146_3 ((rd_T39 l0 x10_1).f3).length c146_3)).heap[gb147]? = some (.cells #[.int .i64 ((rd_T39 l0 x10_1).f0), .int .i64 ((rd_T39 l0 x10_1).f1), .int .i64 ((rd_T39 l0 x10_1).f2), .slice A146_3 ((rd_T39 l0 x10_1).f3).length c146_3] 39 (0, 0))) := ⟨by (with_reducible repeat (first | refine blk_drewN ?_ _ | refine blk_drew ?_ | refine blk_alloc ?_ _)); refine blk_put (cs := #[.int .i64 ((rd_T39 l0 x10_1).f0), .int .i64 ((rd_T39 l0 x10_1).f1), .int .i64 ((rd_T39 l0 x10_1).f2), .slice none 0 0]) ?_ 3 _ rfl; (with_reducible repeat (first | refine blk_drewN ?_ _ | refine blk_drew ?_ | refine blk_alloc ?_ _)); refine blk_put (cs := #[.int .i64 ((rd_T39 l0 x10_1).f0), .int .i64 ((rd_T39 l0 x10_1).f1), .int .i64 0, .slice none 0 0]) ?_ 2 _ rfl; (with_reducible repeat (first | refine blk_drewN ?_ _ | refine blk_drew ?_ | refine blk_alloc ?_ _)); refine blk_put (cs := #[.int .i64 ((rd_T39 l0 x10_1).f0), .int .i64 0, .int .i64 0, .slice none 0 0]) ?_ 1 _ rfl; (with_reducible repeat (first | refine blk_drewN ?_ _ | refine blk_drew ?_ | refine blk_alloc ?_ _)); refine blk_put (cs := #[.int .i64 0, .int .i64 0, .int .i64 0, .slice none 0 0]) ?_ 0 _ rfl; (with_reducible repeat (first | refine blk_drewN ?_ _ | refine blk_drew ?_ | refine blk_alloc ?_ _)); exact BK147.out⟩
                  have n2_ : Aside0 (Below w.heap.size w ((((w10.setCell ⟨gb147, 0, none⟩ (.int .i64 ((rd_T39 l0 x10_1).f0))).setCell ⟨gb147, 1, none⟩ (.int .i64 ((rd_T39 l0 x10_1).f1))).setCell ⟨gb147, 2, none⟩ (.int .i64 ((rd_T39 l0 x10_1).f2))).setCell ⟨gb147, 3, none⟩ (.slice A146_3 ((rd_T39 l0 x10_1).f3).length c146_3))) := ⟨by repeat (first | (with_reducible first | exact HB.out | apply below_alloc | apply pw_below_drewN | apply below_drew1 | refine below_set ?_ GE147.out) | exact HB.out)⟩
                  (try clear HO_3)
                  (try clear BK147)
                  (try clear HB)
                  generalize ((((w10.setCell ⟨gb147, 0, none⟩ (.int .i64 ((rd_T39 l0 x10_1).f0))).setCell ⟨gb147, 1, none⟩ (.int .i64 ((rd_T39 l0 x10_1).f1))).setCell ⟨gb147, 2, none⟩ (.int .i64 ((rd_T39 l0 x10_1).f2))).setCell ⟨gb147, 3, none⟩ (.slice A146_3 ((rd_T39 l0 x10_1).f3).length c146_3)) = w12 at n0_ n1_ n2_ ⊢
                  have HO_3 := n0_
                  have BK147 := n1_
                  have HB := n2_
                  clear n0_ n1_ n2_
                  have n0_ := Aside0.mk (Kd.R_drew HO_3.out)
                  have n1_ := Aside0.mk (blk_drew BK147.out)
                  have n2_ := Aside0.mk (below_drew1 HB.out)
                  clear HO_3
                  clear BK147
                  clear HB
                  have HO_3 := n0_
                  have BK147 := n1_
                  have HB := n2_
                  clear n0_ n1_ n2_
                  have p148 : 0 ≤ (0 : Int) := (by omega)
                  have q148 : 0 < (l0.length : Int) := of_decide_eq_true (by first | (with_reducible assumption) | assumption)
                  obtain ⟨ad148, A148_3, c148_3, e148, hx148_0, hx148_1, hx148_2, hx148_3, hl148_3, hi148_3⟩ := at_T39 HR0.out 0 p148 q148
                  have hw148_3 := hx148_3
                  (try rw [show ((0 : Int)).toNat = 0 from rfl] at hw148_3)
                  (try rw [show 0 * 4 = 0 from rfl] at hw148_3)
                  (try rw [Addr.add_zero'] at hw148_3)
                  have hw148_2 := hx148_2
                  (try rw [show ((0 : Int)).toNat = 0 from rfl] at hw148_2)
                  (try rw [show 0 * 4 = 0 from rfl] at hw148_2)
                  (try rw [Addr.add_zero'] at hw148_2)
                  have hw148_1 := hx148_1
                  (try rw [show ((0 : Int)).toNat = 0 from rfl] at hw148_1)
                  (try rw [show 0 * 4 = 0 from rfl] at hw148_1)
                  (try rw [Addr.add_zero'] at hw148_1)
                  have hw148_0 := hx148_0
                  (try rw [show ((0 : Int)).toNat = 0 from rfl] at hw148_0)
                  (try rw [show 0 * 4 = 0 from rfl] at hw148_0)
                  (try rw [Addr.add_zero'] at hw148_0)
                  obtain rfl : ad146 = ad148 := (by injection e148)
                  have qi148 : (0 < l0.length) = True := eq_true (by omega)
                  (try rw [show ((0 : Int)).toNat = 0 from rfl] at hx148_0)
                  (try rw [show 0 * 4 = 0 from rfl] at hx148_0)
                  (try rw [Addr.add_zero'] at hx148_0)
                  (try rw [show ((0 : Int)).toNat = 0 from rfl] at hx148_1)
                  (try rw [show 0 * 4 = 0 from rfl] at hx148_1)
                  (try rw [Addr.add_zero'] at hx148_1)
                  (try rw [show ((0 : Int)).toNat = 0 from rfl] at hx148_2)
                  (try rw [show 0 * 4 = 0 from rfl] at hx148_2)
                  (try rw [Addr.add_zero'] at hx148_2)
                  (try rw [show ((0 : Int)).toNat = 0 from rfl] at hx148_3)
                  (try rw [show 0 * 4 = 0 from rfl] at hx148_3)
                  (try rw [Addr.add_zero'] at hx148_3)
                  replace hx148_0 := (HB.out.cell (World.block_lt_of_cell? w _ hx148_0)).trans hx148_0
                  replace hx148_1 := (HB.out.cell (World.block_lt_of_cell? w _ hx148_1)).trans hx148_1
                  replace hx148_2 := (HB.out.cell (World.block_lt_of_cell? w _ hx148_2)).trans hx148_2
                  replace hx148_3 := (HB.out.cell (World.block_lt_of_cell? w _ hx148_3)).trans hx148_3
                  have HR148_3 := Aside0.mk hi148_3
                  have HC148_3 := Aside0.mk hl148_3
                  clear hi148_3 hl148_3
                  replace p148 := eq_true p148
                  replace q148 := eq_true q148
                  refine start_ (n := 13) (S := fun w' => w'.cell? ⟨gb147, 0, none⟩ = some (.int .i64 ((rd_T39 l0 x10_1).f0)) ∧ w'.cell? ⟨gb147, 1, none⟩ = some (.int .i64 ((rd_T39 l0 x10_1).f1)) ∧ w'.cell? ⟨gb147, 2, none⟩ = some (.int .i64 ((rd_T39 l0 x10_1).f2)) ∧ w'.cell? ⟨gb147, 3, none⟩ = some (.slice A146_3 ((rd_T39 l0 x10_1).f3).length c146_3) ∧ w'.cell? ad146 = some (.int .i64 ((rd_T39 l0 0).f0)) ∧ w'.cell? ⟨ad146.block, ad146.off + 1, none⟩ = some (.int .i64 ((rd_T39 l0 0).f1)) ∧ w'.cell? ⟨ad146.block, ad146.off + 2, none⟩ = some (.int .i64 ((rd_T39 l0 0).f2)) ∧ w'.cell? ⟨ad146.block, ad146.off + 3, none⟩ = some (.slice A148_3 ((rd_T39 l0 0).f3).length c148_3)) (ds := []) #[false, false, false, false, false, false, false, false, false, false, false, false, false] (by kernel_rfl) rfl rfl ⟨(blk_cell BK147.out 0).trans rfl, (blk_cell BK147.out 1).trans rfl, (blk_cell BK147.out 2).trans rfl, (blk_cell BK147.out 3).trans rfl, ((HB.out.cell (World.block_lt_of_cell? w _ hw148_0)).trans hw148_0), ((HB.out.cell (World.block_lt_of_cell? w _ hw148_1)).trans hw148_1), ((HB.out.cell (World.block_lt_of_cell? w _ hw148_2)).trans hw148_2), ((HB.out.cell (World.block_lt_of_cell? w _ hw148_3)).trans hw148_3)⟩ (fun hHeld => ?_); refine with_tabW voice_numbers.tab8 voice_numbers.bits8 (fun HT_ HW_ => ?_)
                  generalize w12.drew = w13 at HO_3 BK147 HB HR148_3 hx148_0 hx148_1 hx148_2 hx148_3 hHeld ⊢
                  refine pure_ (i := 0) (N := some 17) (v := ?_) (a' := ?_) #[true, false, false, false, false, false, false, false, false, false, false, false, false] rfl rfl (any_of HT_.out (by kernel_rfl)) (fun _ _ _ h => h) (Or.inl ⟨by rfl, ?_⟩) ?_ ?_
                  rotate_left
                  · intro w'
                    go_simp
                    with_reducible rfl
                  rotate_left
                  · simp only [Act.put, List.setIfInBounds_toArray, List.set_cons_zero, List.set_cons_succ, i64_w, i32_w]
                    rfl
                  refine pure_ (i := 1) (N := some 18) (v := ?_) (a' := ?_) #[true, true, false, false, false, false, false, false, false, false, false, false, false] rfl rfl (any_of HT_.out (by kernel_rfl)) (fun _ _ _ h => h) (Or.inl ⟨by rfl, ?_⟩) ?_ ?_
                  rotate_left
                  · intro w'
                    go_simp
                    with_reducible rfl
                  rotate_left
                  · simp only [Act.put, List.setIfInBounds_toArray, List.set_cons_zero, List.set_cons_succ, i64_w, i32_w]
                    rfl
                  refine pure_ (i := 3) (N := some 20) (v := ?_) (a' := ?_) #[true, true, false, true, false, false, false, false, false, false, false, false, false] rfl rfl (any_of HT_.out (by kernel_rfl)) (fun _ _ _ h => h) (Or.inl ⟨by rfl, ?_⟩) ?_ ?_
                  rotate_left
                  · intro w'
                    go_simp
                    with_reducible rfl
                  rotate_left
                  · simp only [Act.put, List.setIfInBounds_toArray, List.set_cons_zero, List.set_cons_succ, i64_w, i32_w]
                    rfl
                  refine pure_ (i := 4) (N := some 21) (v := ?_) (a' := ?_) #[true, true, false, true, true, false, false, false, false, false, false, false, false] rfl rfl (any_of HT_.out (by kernel_rfl)) (fun _ _ _ h => h) (Or.inl ⟨by rfl, ?_⟩) ?_ ?_
                  rotate_left
                  · intro w'
                    go_simp
                    with_reducible rfl
                  rotate_left
                  · simp only [Act.put, List.setIfInBounds_toArray, List.set_cons_zero, List.set_cons_succ, i64_w, i32_w]
                    rfl
                  refine pure_ (i := 5) (N := some 22) (v := ?_) (a' := ?_) #[true, true, false, true, true, true, false, false, false, false, false, false, false] rfl rfl (any_of HT_.out (by kernel_rfl)) (fun _ _ _ h => h) (Or.inl ⟨by rfl, ?_⟩) ?_ ?_
                  rotate_left
                  · intro w'
                    go_simp
                    with_reducible rfl
                  rotate_left
                  · simp only [Act.put, List.setIfInBounds_toArray, List.set_cons_zero, List.set_cons_succ, i64_w, i32_w]
                    rfl
                  refine pure_ (i := 7) (N := some 24) (v := ?_) (a' := ?_) #[true, true, false, true, true, true, false, true, false, false, false, false, false] rfl rfl (any_of HT_.out (by kernel_rfl)) (fun _ _ _ h => h) (Or.inl ⟨by rfl, ?_⟩) ?_ ?_
                  rotate_left
                  · intro w'
                    go_simp
                    with_reducible rfl
                  rotate_left
                  · simp only [Act.put, List.setIfInBounds_toArray, List.set_cons_zero, List.set_cons_succ, i64_w, i32_w]
                    rfl
                  refine take_ (i := 2) (N := some 19) (v := ?_) (a' := ?_) #[true, true, true, true, true, true, false, true, false, false, false, false, false] rfl rfl (take_ofW HT_.out HW_.out (by kernel_rfl)) (fun _ _ _ h => h) (Or.inl ⟨by rfl, ?_⟩) hHeld ?_ ?_
                  rotate_left
                  · rintro w' ⟨s0, s1, s2, s3, s4, s5, s6, s7⟩
                    go_simp
                    with_reducible rfl
                  rotate_left
                  · simp only [Act.put, List.setIfInBounds_toArray, List.set_cons_zero, List.set_cons_succ, i64_w, i32_w]
                    rfl
                  refine take_ (i := 6) (N := some 23) (v := ?_) (a' := ?_) #[true, true, true, true, true, true, true, true, false, false, false, false, false] rfl rfl (take_ofW HT_.out HW_.out (by kernel_rfl)) (fun _ _ _ h => h) (Or.inl ⟨by rfl, ?_⟩) hHeld ?_ ?_
                  rotate_left
                  · rintro w' ⟨s0, s1, s2, s3, s4, s5, s6, s7⟩
                    go_simp
                    with_reducible rfl
                  rotate_left
                  · simp only [Act.put, List.setIfInBounds_toArray, List.set_cons_zero, List.set_cons_succ, i64_w, i32_w]
                    rfl
                  refine pure_ (i := 8) (N := some 25) (v := ?_) (a' := ?_) #[true, true, true, true, true, true, true, true, true, false, false, false, false] rfl rfl (any_of HT_.out (by kernel_rfl)) (fun _ _ _ h => h) (Or.inl ⟨by rfl, ?_⟩) ?_ ?_
                  rotate_left
                  · intro w'
                    go_simp
                    with_reducible rfl
                  rotate_left
                  · simp only [Act.put, List.setIfInBounds_toArray, List.set_cons_zero, List.set_cons_succ, i64_w, i32_w]
                    rfl
                  refine pure_ (i := 9) (N := some 26) (v := ?_) (a' := ?_) #[true, true, true, true, true, true, true, true, true, true, false, false, false] rfl rfl (any_of HT_.out (by kernel_rfl)) (fun _ _ _ h => h) (Or.inl ⟨by rfl, ?_⟩) ?_ ?_
                  rotate_left
                  · intro w'
                    go_simp
                    with_reducible rfl
                  rotate_left
                  · simp only [Act.put, List.setIfInBounds_toArray, List.set_cons_zero, List.set_cons_succ, i64_w, i32_w]
                    rfl
                  refine one_ (i := 10) (N := some 27) #[true, true, true, true, true, true, true, true, true, true, true, false, false] rfl rfl (one_of HT_.out (by kernel_rfl)) (by decide) (fun K hK => ?_)
                  refine goes_ Try.func26 (by kernel_rfl) rfl #[.int .i64 (wrap64 (((rd_T39 l0 x10_1).f0) - (wrap64 (((rd_T39 l0 0).f0) + x4_1)))), .int .i64 65536] (by rfl) rfl rfl (by (try simp only [List.map_toArray, List.map_cons, List.map_nil]); first | done | rfl | (simp only [List.length_drop, List.length_take]; rfl)) ?_
                  with_reducible refine (voice_near.calls (wrap64 (((rd_T39 l0 x10_1).f0) - (wrap64 (((rd_T39 l0 0).f0) + x4_1)))) 65536 t149 _ A7.out).mono ?_
                  rintro e w' ⟨rfl, ⟨nd, rfl⟩⟩
                  refine ⟨_, rfl, ?_⟩
                  refine hK.out _ _ ⟨(blk_cell BK147.out 0).trans rfl, (blk_cell BK147.out 1).trans rfl, (blk_cell BK147.out 2).trans rfl, (blk_cell BK147.out 3).trans rfl, ((HB.out.cell (World.block_lt_of_cell? w _ hw148_0)).trans hw148_0), ((HB.out.cell (World.block_lt_of_cell? w _ hw148_1)).trans hw148_1), ((HB.out.cell (World.block_lt_of_cell? w _ hw148_2)).trans hw148_2), ((HB.out.cell (World.block_lt_of_cell? w _ hw148_3)).trans hw148_3)⟩ (fun hHeld => ?_)
                  clear hK K
                  refine norm_ (a' := ?_) ?_ ?_
                  rotate_left
                  · show Act.put _ (some 27) _ = _
                    simp only [Act.put, List.setIfInBounds_toArray, List.set_cons_zero, List.set_cons_succ, i64_w, i32_w]
                    rfl
                  refine pure_ (i := 11) (N := some 28) (v := ?_) (a' := ?_) #[true, true, true, true, true, true, true, true, true, true, true, true, false] rfl rfl (any_of HT_.out (by kernel_rfl)) (fun _ _ _ h => h) (Or.inl ⟨by rfl, ?_⟩) ?_ ?_
                  rotate_left
                  · intro w'
                    go_simp
                    with_reducible rfl
                  rotate_left
                  · simp only [Act.put, List.setIfInBounds_toArray, List.set_cons_zero, List.set_cons_succ, i64_w, i32_w]
                    rfl
                  refine pure_ (i := 12) (N := some 7) (v := ?_) (a' := ?_) #[true, true, true, true, true, true, true, true, true, true, true, true, true] rfl rfl (any_of HT_.out (by kernel_rfl)) (fun _ _ _ h => h) (Or.inl ⟨by rfl, ?_⟩) ?_ ?_
                  rotate_left
                  · intro w'
                    go_simp
                    with_reducible rfl
                  rotate_left
                  · simp only [Act.put, List.setIfInBounds_toArray, List.set_cons_zero, List.set_cons_succ, i64_w, i32_w]
                    rfl
                  refine done_ (done_of HT_.out (by kernel_rfl)) ?_
                  try go_wp2_with (first | ((with_reducible refine gate_builtin (b := .append) (xs := #[.tmp 32, .tmp 34]) rfl ?_); at_builtin; refine Kd.R_append (Kd.int .i64) (w0 := w) w.heap.size rfl (.tmp 32) (.tmp 34) 26 3 (.int .i64 0) 8 rfl Try.underlying26 info3 rfl (by decide) (by omega) u3 x3_1 (wrap64 (x4_1 + t149)) [.int .i64 (wrap64 (x4_1 + t149))] (fun _ => True) (fun _ => False) rfl rfl ?aP (fun _ hk => hk.elim) ?aF ?aO ?aB ?aS ?aL ?_; (case aP => exact rfl); (case aB => exact (by repeat (first | (with_reducible first | exact HB.out | apply below_alloc | apply pw_below_drewN | apply below_drew1 | refine below_set ?_ GE147.out) | exact HB.out))); (case aF => exact (fun _ _ => trivial)); (case aO => exact (by (with_reducible repeat (first | apply Kd.R_alloc | apply Kd.R_drewN | apply Kd.R_drew)); exact HO_3.out)); (case aS => exact (below_size (by repeat (first | (with_reducible first | exact HB.out | apply below_alloc | apply pw_below_drewN | apply below_drew1 | refine below_set ?_ GE147.out) | exact HB.out)))); (case aL => have := LMc9.out; omega); intro v151 w14 ho hb hg hat; rw [← Ny150.out] at ho; have n0_ := Aside0.mk (blk_grown (g := gb147) (o := .cells #[.int .i64 ((rd_T39 l0 x10_1).f0), .int .i64 ((rd_T39 l0 x10_1).f1), .int .i64 ((rd_T39 l0 x10_1).f2), .slice A146_3 ((rd_T39 l0 x10_1).f3).length c146_3] 39 (0, 0)) (by (with_reducible repeat (first | refine blk_drewN ?_ _ | refine blk_drew ?_ | refine blk_alloc ?_ _)); exact BK147.out) hg (Kd.R_ne HO_3.out BK147.out (by decide))); have n1_ := Aside0.mk (hb); have n2_ := Aside0.mk (ho); clear BK147; clear HB; clear HO_3; have BK147 := n0_; have HB := n1_; have HO152 := n2_; clear n0_ n1_ n2_; clear ho hb hg hat))
                  go_roundg k1
                  case measure => have := HK1.out; omega
                  case rel => exact ⟨(y150), (ji8), (wrap64 (x10_1 + 1)), (by first | rfl | (simp; done) | (simp only [← hji8] <;> (first | rfl | simp)) | (simp [*]; done)), (by first | rfl | (simp; done) | (simp [*]; done)), H', ⟨by have := HK1.out; omega⟩, ⟨by (with_reducible repeat (first | apply Kd.R_alloc | apply Kd.R_drewN | apply Kd.R_drew)); exact HO152.out⟩, ⟨by repeat (first | (with_reducible first | exact HB.out | apply below_alloc | apply pw_below_drewN | apply below_drew1 | refine below_set ?_ GE147.out) | exact HB.out)⟩⟩
                · rw [if_neg c9] at H
                  exact absurd H (by simp)
              · rw [if_neg c6] at H
                exact absurd H (by simp)
            · rw [if_neg c5] at H
              have c5b0 : decide (0 < x10_1) = false := decide_eq_false c5
              clear c5
              obtain ⟨ji15, hji15⟩ : ∃ j_ : Int, (mx x4_1 0) = j_ := ⟨_, rfl⟩
              replace H : (if x3_1.length < 17592186044416 then (voice_numbers.l0 k1 l0 (x3_1 ++ [0]) ji15 l0 (l0.length : Int) (wrap64 (x10_1 + 1))) else (none)) = some r := by first | (rw [hji15] at H; exact H) | (simp only [hji15] at H ⊢; exact H)
              have hji15_ : (if x4_1 < 0 then 0 else x4_1) = ji15 := hji15
              by_cases c16 : x3_1.length < 17592186044416
              · rw [if_pos c16] at H
                have LMc16 := Aside0.mk c16
                clear c16
                obtain ⟨y153, hy153⟩ : ∃ y_ : List Int, y_ = (x3_1 ++ [0]) := ⟨_, rfl⟩
                replace H : (voice_numbers.l0 k1 l0 y153 ji15 l0 (l0.length : Int) (wrap64 (x10_1 + 1))) = some r := by first | (rw [hy153]; with_reducible exact H) | (have H2_ := (Option.bind_some _ _).symm.trans H; rw [hy153]; with_reducible exact H2_) | (have H2_ := (Option.bind_some _ _).symm.trans H; with_reducible exact H2_) | with_reducible exact H | (rw [hy153]; exact H) | exact H
                have Ny153 := Aside0.mk hy153
                clear hy153
                have H' := Aside0.mk H
                clear H
                have p146 : 0 ≤ (x10_1 : Int) := of_decide_eq_true (by first | (with_reducible assumption) | assumption)
                have q146 : x10_1 < (l0.length : Int) := of_decide_eq_true (by first | (with_reducible assumption) | assumption)
                obtain ⟨ad146, A146_3, c146_3, e146, hx146_0, hx146_1, hx146_2, hx146_3, hl146_3, hi146_3⟩ := at_T39 HR0.out x10_1 p146 q146
                cases e146
                replace hx146_0 := (HB.out.cell (World.block_lt_of_cell? w _ hx146_0)).trans hx146_0
                replace hx146_1 := (HB.out.cell (World.block_lt_of_cell? w _ hx146_1)).trans hx146_1
                replace hx146_2 := (HB.out.cell (World.block_lt_of_cell? w _ hx146_2)).trans hx146_2
                replace hx146_3 := (HB.out.cell (World.block_lt_of_cell? w _ hx146_3)).trans hx146_3
                have HR146_3 := Aside0.mk hi146_3
                have HC146_3 := Aside0.mk hl146_3
                clear hi146_3 hl146_3
                replace p146 := eq_true p146
                replace q146 := eq_true q146
                go_wp2_with (first | ((with_reducible refine gate_dst (N := 6) rfl ?_); refine box_event ?hg (N := 6) ?hd (cs := #[.int .i64 0, .int .i64 0, .int .i64 0, .slice none 0 0]) (t := 39) ?hr ?_; (case hd => rfl); (case hg => rfl); (case hr => first | (go_simp; done) | (go_simp; rfl)); intro gb147 hg w17 hbox hb; have n0_ := Aside0.mk (Kd.R_below (by (with_reducible repeat (first | apply Kd.R_alloc | apply Kd.R_drewN | apply Kd.R_drew)); exact HO_3.out) hb); have n1_ := Aside0.mk (below_step (by repeat (first | (with_reducible first | exact HB.out | apply below_alloc | apply pw_below_drewN | apply below_drew1) | exact HB.out)) hb); have n2_ := Aside0.mk (hbox); have n3_ := Aside0.mk ((by rw [hg]; exact (below_size (by repeat (first | (with_reducible first | exact HB.out | apply below_alloc | apply pw_below_drewN | apply below_drew1) | exact HB.out))) : w.heap.size ≤ gb147)); have n4_ := Aside0.mk ((by rw [hg]; exact (below_size (by repeat (first | (with_reducible first | exact HB.out | apply below_alloc | apply pw_below_drewN | apply below_drew1) | exact HB.out))) : w.heap.size ≤ gb147)); clear HO_3; clear HB; have HO_3 := n0_; have HB := n1_; have BK147 := n2_; have GW147 := n3_; have GE147 := n4_; clear n0_ n1_ n2_ n3_ n4_; clear hb hbox hg; have hcz18_0 : w17.cell? ⟨gb147, 0, none⟩ = some (.int .i64 0) := (blk_cell BK147.out 0).trans rfl; have hcz18_1 : w17.cell? ⟨gb147, 1, none⟩ = some (.int .i64 0) := (blk_cell BK147.out 1).trans rfl; have hcz18_2 : w17.cell? ⟨gb147, 2, none⟩ = some (.int .i64 0) := (blk_cell BK147.out 2).trans rfl; have hcz18_3 : w17.cell? ⟨gb147, 3, none⟩ = some (.slice none 0 0) := (blk_cell BK147.out 3).trans rfl; have hfz18_0 := blk_frozen BK147.out 0; have hfz18_1 := blk_frozen BK147.out 1; have hfz18_2 := blk_frozen BK147.out 2; have hfz18_3 := blk_frozen BK147.out 3) | ((with_reducible refine gate_builtin (b := .append) (xs := #[.tmp 32, .tmp 34]) rfl ?_); at_builtin; refine Kd.R_append (Kd.int .i64) (w0 := w) w.heap.size rfl (.tmp 32) (.tmp 34) 26 3 (.int .i64 0) 8 rfl Try.underlying26 info3 rfl (by decide) (by omega) u3 x3_1 0 [.int .i64 0] (fun _ => True) (fun _ => False) rfl (by first | (go_simp; done) | (go_simp; rfl)) ?aP (fun _ hk => hk.elim) ?aF ?aO ?aB ?aS ?aL ?_; (case aP => exact rfl); (case aB => exact (by repeat (first | (with_reducible first | exact HB.out | apply below_alloc | apply pw_below_drewN | apply below_drew1 | refine below_set ?_ GE147.out) | exact HB.out))); (case aF => exact (fun _ _ => trivial)); (case aO => exact (by (with_reducible repeat (first | apply Kd.R_alloc | apply Kd.R_drewN | apply Kd.R_drew)); exact Kd.R_mono (Kd.R_far (p := ⟨gb147, 3, none⟩) (Kd.R_far (p := ⟨gb147, 2, none⟩) (Kd.R_far (p := ⟨gb147, 1, none⟩) (Kd.R_far (p := ⟨gb147, 0, none⟩) (Kd.R_types HO_3.out BK147.out (by decide)) (fun _ hk => hk.2) (.int .i64 ((rd_T39 l0 x10_1).f0))) (fun _ hk => hk.2) (.int .i64 ((rd_T39 l0 x10_1).f1))) (fun _ hk => hk.2) (.int .i64 ((rd_T39 l0 x10_1).f2))) (fun _ hk => hk.2) (.slice A146_3 ((rd_T39 l0 x10_1).f3).length c146_3)) (fun _ hk => trivial))); (case aS => exact (below_size (by repeat (first | (with_reducible first | exact HB.out | apply below_alloc | apply pw_below_drewN | apply below_drew1 | refine below_set ?_ GE147.out) | exact HB.out)))); (case aL => have := LMc16.out; omega); intro v154 w19 ho hb hg hat; rw [← Ny153.out] at ho; have n0_ := Aside0.mk (blk_grown (g := gb147) (o := .cells #[.int .i64 ((rd_T39 l0 x10_1).f0), .int .i64 ((rd_T39 l0 x10_1).f1), .int .i64 ((rd_T39 l0 x10_1).f2), .slice A146_3 ((rd_T39 l0 x10_1).f3).length c146_3] 39 (0, 0)) (by (with_reducible repeat (first | refine blk_drewN ?_ _ | refine blk_drew ?_ | refine blk_alloc ?_ _)); refine blk_put (cs := #[.int .i64 ((rd_T39 l0 x10_1).f0), .int .i64 ((rd_T39 l0 x10_1).f1), .int .i64 ((rd_T39 l0 x10_1).f2), .slice none 0 0]) ?_ 3 _ rfl; (with_reducible repeat (first | refine blk_drewN ?_ _ | refine blk_drew ?_ | refine blk_alloc ?_ _)); refine blk_put (cs := #[.int .i64 ((rd_T39 l0 x10_1).f0), .int .i64 ((rd_T39 l0 x10_1).f1), .int .i64 0, .slice none 0 0]) ?_ 2 _ rfl; (with_reducible repeat (first | refine blk_drewN ?_ _ | refine blk_drew ?_ | refine blk_alloc ?_ _)); refine blk_put (cs := #[.int .i64 ((rd_T39 l0 x10_1).f0), .int .i64 0, .int .i64 0, .slice none 0 0]) ?_ 1 _ rfl; (with_reducible repeat (first | refine blk_drewN ?_ _ | refine blk_drew ?_ | refine blk_alloc ?_ _)); refine blk_put (cs := #[.int .i64 0, .int .i64 0, .int .i64 0, .slice none 0 0]) ?_ 0 _ rfl; (with_reducible repeat (first | refine blk_drewN ?_ _ | refine blk_drew ?_ | refine blk_alloc ?_ _)); exact BK147.out) hg (Kd.R_ne HO_3.out BK147.out (by decide))); have n1_ := Aside0.mk (hb); have n2_ := Aside0.mk (ho); clear BK147; clear HB; clear HO_3; have BK147 := n0_; have HB := n1_; have HO155 := n2_; clear n0_ n1_ n2_; clear ho hb hg hat))
                go_roundg k1
                case measure => have := HK1.out; omega
                case rel => exact ⟨(y153), (ji15), (wrap64 (x10_1 + 1)), (by first | rfl | (simp; done) | (simp only [← hji15] <;> (first | rfl | simp)) | (simp [*]; done)), (by first | rfl | (simp; done) | (simp [*]; done)), H', ⟨by have := HK1.out; omega⟩, ⟨by (with_reducible repeat (first | apply Kd.R_alloc | apply Kd.R_drewN | apply Kd.R_drew)); exact HO155.out⟩, ⟨by repeat (first | (with_reducible first | exact HB.out | apply below_alloc | apply pw_below_drewN | apply below_drew1 | refine below_set ?_ GE147.out) | exact HB.out)⟩⟩
              · rw [if_neg c16] at H
                exact absurd H (by simp)
          · rw [if_neg c4] at H
            exact absurd H (by simp)
        · rw [if_neg c3] at H
          exact absurd H (by simp)
      · rw [if_neg c2] at H
        have c2b0 : decide (x10_1 < (l0.length : Int)) = false := decide_eq_false c2
        clear c2
        obtain rfl := Option.some.inj H
        go_wp2
        go_ret
        exact ⟨_, by first | rfl | (simp [errW_none, errW_some] <;> rfl) | (simp [*, errW_none, errW_some] <;> rfl), by (with_reducible repeat (first | apply Kd.R_alloc | apply Kd.R_drewN | apply Kd.R_drew)); exact HO_3.out, by repeat (first | (with_reducible first | exact HB.out | apply below_alloc | apply pw_below_drewN | apply below_drew1) | exact HB.out)⟩

/-! ### wide_Get: function 36 -/
def wide_Get.l0 : Nat → List Int → Bool → Int → Int → Int → Option (Int)
  | 0, _, _, _, _, _ => none
  | k + 1, x0, x1, x5, x8, x9 => if x9 < x8 then (if x1 = true then (if 0 ≤ (wrap64 ((wrap64 ((x0.length : Int) - 1)) - x9)) then (if (wrap64 ((wrap64 ((x0.length : Int) - 1)) - x9)) < (x0.length : Int) then (wide_Get.l0 k x0 x1 (Go.bits .or .u64 (IntKind.u64.wrap (x5 * 256)) (IntKind.u64.wrap (rd x0 (wrap64 ((wrap64 ((x0.length : Int) - 1)) - x9))))) x8 (wrap64 (x9 + 1))) else (none)) else (none)) else (if 0 ≤ x9 then (if x9 < (x0.length : Int) then (wide_Get.l0 k x0 x1 (Go.bits .or .u64 (IntKind.u64.wrap (x5 * 256)) (IntKind.u64.wrap (rd x0 x9))) x8 (wrap64 (x9 + 1))) else (none)) else (none))) else (some x5)
def wide_Get.f (k : Nat) (l0 : List Int) (a1 : Bool) : Option (Int) := wide_Get.l0 k l0 a1 0 (l0.length : Int) 0
theorem wide_Get.mono_l : ∀ k, (∀ y0 y1 y2 y3 y4, LeO (wide_Get.l0 k y0 y1 y2 y3 y4) (wide_Get.l0 (k + 1) y0 y1 y2 y3 y4))
  | 0 => fun _ _ _ _ _ r h => by simp [wide_Get.l0] at h
  | k + 1 => by
    have ih0 := wide_Get.mono_l k
    · intro y0 y1 y2 y3 y4
      unfold wide_Get.l0
      repeat' first
      | (with_reducible exact ih0 _ _ _ _ _)
      | (with_reducible exact LeO.refl _)
      | (with_reducible exact LeO.none _)
      | (with_reducible refine LeO.ite ?_ ?_)
      | (with_reducible refine LeO.bind ?_ (fun _ => ?_))
      | exact ih0 _ _ _ _ _
      | exact LeO.none _
      | refine LeO.ite ?_ ?_
      | refine LeO.bind ?_ (fun _ => ?_)
theorem wide_Get.mono : ∀ a0 a1 k, LeO (wide_Get.f k a0 a1) (wide_Get.f (k + 1) a0 a1) := by
  intro a0 a1 k
  have ih0 := wide_Get.mono_l k
  unfold wide_Get.f
  repeat' first
      | (with_reducible exact ih0 _ _ _ _ _)
      | (with_reducible exact LeO.refl _)
      | (with_reducible exact LeO.none _)
      | (with_reducible refine LeO.ite ?_ ?_)
      | (with_reducible refine LeO.bind ?_ (fun _ => ?_))
      | exact ih0 _ _ _ _ _
      | exact LeO.none _
      | refine LeO.ite ?_ ?_
      | refine LeO.bind ?_ (fun _ => ?_)
set_option maxHeartbeats 8000000 in
set_option maxRecDepth 100000 in
theorem wide_Get.calls (k : Nat) (A0 : Option Addr) (c0 : Nat) (l0 : List Int) (a1 : Bool) (r : Int) (w : World) (hr0 : Kd.C (Kd.int .u8) w A0 l0.length l0) (hc0 : l0.length ≤ c0) (h : wide_Get.f k l0 a1 = some r) :
    Calls Try.prog 36 #[.slice A0 l0.length c0, .bool a1] w fun e w' => e = .returned (.int .u64 r) ∧ Drawn0 w w' := by
  have HR0 := Aside0.mk hr0
  have HC0 := Aside0.mk hc0
  clear hr0 hc0
  have H : (wide_Get.l0 k l0 a1 0 (l0.length : Int) 0) = some r := h
  clear h
  have H' := Aside0.mk H
  clear H
  go_enter Try.func36, Try.ntmps36
  go_wp2
  go_loopg [5, 9] k (fun kq v5 v9 w' => ∃ (x5_1 : Int) (x9_1 : Int), v5 = .int .u64 x5_1 ∧ v9 = .int .i64 x9_1 ∧ Aside0 (wide_Get.l0 kq l0 a1 x5_1 (l0.length : Int) x9_1 = some r) ∧ Aside0 (kq ≤ k) ∧ Drawn0 w w')
  case atStart => exact ⟨(0), (0), (by first | rfl | (simp; done) | (simp [*]; done)), (by first | rfl | (simp; done) | (simp [*]; done)), H', ⟨Nat.le_refl _⟩, by repeat (first | exact Drawn0.refl _ | apply Drawn0.step)⟩
  case round =>
    clear H'
    try clear p2
    obtain ⟨x5_1, x9_1, rfl, rfl, HA, HK1, ⟨m1, rfl⟩⟩ := hrel
    cases gk with
    | zero => exact absurd HA.out (by simp [wide_Get.l0])
    | succ k1 =>
      have H := HA.out
      clear HA
      simp only [wide_Get.l0] at H
      by_cases c3 : x9_1 < (l0.length : Int)
      · rw [if_pos c3] at H
        have c3b0 : decide (x9_1 < (l0.length : Int)) = true := decide_eq_true c3
        clear c3
        by_cases c4 : a1 = true
        · subst c4
          have H1 : (if 0 ≤ (wrap64 ((wrap64 ((l0.length : Int) - 1)) - x9_1)) then (if (wrap64 ((wrap64 ((l0.length : Int) - 1)) - x9_1)) < (l0.length : Int) then (wide_Get.l0 k1 l0 true (Go.bits .or .u64 (IntKind.u64.wrap (x5_1 * 256)) (IntKind.u64.wrap (rd l0 (wrap64 ((wrap64 ((l0.length : Int) - 1)) - x9_1))))) (l0.length : Int) (wrap64 (x9_1 + 1))) else (none)) else (none)) = some r := by rw [if_pos rfl] at H; exact H
          clear H
          have H := H1
          clear H1
          obtain ⟨ji5, hji5⟩ : ∃ j_ : Int, (wrap64 ((wrap64 ((l0.length : Int) - 1)) - x9_1)) = j_ := ⟨_, rfl⟩
          replace H : (if 0 ≤ (ji5) then (if (ji5) < (l0.length : Int) then (wide_Get.l0 k1 l0 true (Go.bits .or .u64 (IntKind.u64.wrap (x5_1 * 256)) (IntKind.u64.wrap (rd l0 (ji5)))) (l0.length : Int) (wrap64 (x9_1 + 1))) else (none)) else (none)) = some r := by first | (rw [hji5] at H; exact H) | (simp only [hji5] at H ⊢; exact H)
          have hji5w : (IntKind.i64.wrap ((wrap64 ((l0.length : Int) - 1)) - x9_1)) = ji5 := (i64_w _).trans hji5
          by_cases c6 : 0 ≤ (ji5)
          · rw [if_pos c6] at H
            have c6b0 : decide (0 ≤ (ji5)) = true := decide_eq_true c6
            clear c6
            by_cases c7 : (ji5) < (l0.length : Int)
            · rw [if_pos c7] at H
              have c7b0 : decide ((ji5) < (l0.length : Int)) = true := decide_eq_true c7
              clear c7
              have H' := Aside0.mk H
              clear H
              have p156 : 0 ≤ ((ji5) : Int) := of_decide_eq_true (by first | (with_reducible assumption) | assumption)
              have q156 : (ji5) < (l0.length : Int) := of_decide_eq_true (by first | (with_reducible assumption) | assumption)
              obtain ⟨ad156, e156, hx156_0⟩ := Kd.at_int HR0.out (ji5) p156 q156
              cases e156
              replace p156 := eq_true p156
              replace q156 := eq_true q156
              go_wp2
              go_roundg k1
              case measure => have := HK1.out; omega
              case rel => exact ⟨(Go.bits .or .u64 (IntKind.u64.wrap (x5_1 * 256)) (IntKind.u64.wrap (rd l0 (ji5)))), (wrap64 (x9_1 + 1)), (by first | rfl | (simp; done) | (simp only [← hji5] <;> (first | rfl | simp)) | (simp [*]; done)), (by first | rfl | (simp; done) | (simp [*]; done)), H', ⟨by have := HK1.out; omega⟩, by repeat (first | exact Drawn0.refl _ | apply Drawn0.step)⟩
            · rw [if_neg c7] at H
              exact absurd H (by simp)
          · rw [if_neg c6] at H
            exact absurd H (by simp)
        · replace c4 := Bool.eq_false_iff.mpr c4
          subst c4
          have H1 : (if 0 ≤ x9_1 then (if x9_1 < (l0.length : Int) then (wide_Get.l0 k1 l0 false (Go.bits .or .u64 (IntKind.u64.wrap (x5_1 * 256)) (IntKind.u64.wrap (rd l0 x9_1))) (l0.length : Int) (wrap64 (x9_1 + 1))) else (none)) else (none)) = some r := by rw [if_neg (show ¬ (false = true) by decide)] at H; exact H
          clear H
          have H := H1
          clear H1
          by_cases c8 : 0 ≤ x9_1
          · rw [if_pos c8] at H
            have c8b0 : decide (0 ≤ x9_1) = true := decide_eq_true c8
            clear c8
            by_cases c9 : x9_1 < (l0.length : Int)
            · rw [if_pos c9] at H
              have c9b0 : decide (x9_1 < (l0.length : Int)) = true := decide_eq_true c9
              clear c9
              have H' := Aside0.mk H
              clear H
              have p157 : 0 ≤ (x9_1 : Int) := of_decide_eq_true (by first | (with_reducible assumption) | assumption)
              have q157 : x9_1 < (l0.length : Int) := of_decide_eq_true (by first | (with_reducible assumption) | assumption)
              obtain ⟨ad157, e157, hx157_0⟩ := Kd.at_int HR0.out x9_1 p157 q157
              cases e157
              replace p157 := eq_true p157
              replace q157 := eq_true q157
              go_wp2
              go_roundg k1
              case measure => have := HK1.out; omega
              case rel => exact ⟨(Go.bits .or .u64 (IntKind.u64.wrap (x5_1 * 256)) (IntKind.u64.wrap (rd l0 x9_1))), (wrap64 (x9_1 + 1)), (by first | rfl | (simp; done) | (simp [*]; done)), (by first | rfl | (simp; done) | (simp [*]; done)), H', ⟨by have := HK1.out; omega⟩, by repeat (first | exact Drawn0.refl _ | apply Drawn0.step)⟩
            · rw [if_neg c9] at H
              exact absurd H (by simp)
          · rw [if_neg c8] at H
            exact absurd H (by simp)
      · rw [if_neg c3] at H
        have c3b0 : decide (x9_1 < (l0.length : Int)) = false := decide_eq_false c3
        clear c3
        obtain rfl := Option.some.inj H
        go_wp2
        go_ret
        exact ⟨by first | rfl | (simp; done) | (simp [*]; done), by repeat (first | exact Drawn0.refl _ | apply Drawn0.step)⟩

/-! The number of bytes, the lowest one first. -/
def leN : List Int → Int
  | [] => 0
  | x :: r => x + 256 * leN r
def ByteL (l : List Int) : Prop := ∀ x ∈ l, 0 ≤ x ∧ x ≤ 255
theorem leN_bd : ∀ (l : List Int), ByteL l → 0 ≤ leN l ∧ leN l < 256 ^ l.length
  | [], _ => by simp [leN]
  | x :: r, h => by
    have hx := h x List.mem_cons_self
    have ih := leN_bd r (fun y hy => h y (List.mem_cons_of_mem _ hy))
    rw [leN, List.length_cons, Int.pow_succ]
    omega
theorem get_or {a b : Int} (h1 : 0 ≤ a) (h2 : a < 72057594037927936) (h3 : 0 ≤ b) (h4 : b ≤ 255) : Go.bits .or .u64 (IntKind.u64.wrap (a * 256)) (IntKind.u64.wrap b) = b + 256 * a := by
  rw [IntKind.wrap_u64, IntKind.wrap_u64, Int.emod_eq_of_lt (by omega) (by omega), Int.emod_eq_of_lt (by omega) (by omega)]
  have hor : Go.bits .or .u64 (a * 256) b = (((a * 256).toNat ||| b.toNat : Nat) : Int) := by
    simp only [Go.bits, BitVec.toNat_or]
    rw [show IntKind.u64.bits = 64 from rfl, Hand.ofInt64, Hand.ofInt64, Int.emod_eq_of_lt (by omega) (by omega), Int.emod_eq_of_lt (by omega) (by omega)]
    have := Nat.or_lt_two_pow (n := 64) (x := (a * 256).toNat) (y := b.toNat) (by omega) (by omega)
    rw [IntKind.wrap_u64]; omega
  have := Nat.two_pow_add_eq_or_of_lt (i := 8) (b := b.toNat) (by omega) a.toNat
  rw [hor, show (a * 256).toNat = 2 ^ 8 * a.toNat by omega, ← this]
  omega
theorem pow256_le {m : Nat} (h : m ≤ 7) : (256 : Int) ^ m ≤ 72057594037927936 := by
  have h2 : ∀ i : Fin 8, (256 : Int) ^ i.val ≤ 72057594037927936 := by decide
  exact h2 ⟨m, by omega⟩
theorem get_le_from (l : List Int) (hb : ByteL l) (hl : l.length ≤ 8) : ∀ (d i : Nat), i + d = l.length → wide_Get.l0 (d + 1) l true (leN (l.drop (l.length - i))) (l.length : Int) (i : Int) = some (leN l)
  | 0, i, h => by
    rw [wide_Get.l0, if_neg (by omega), show l.length - i = 0 by omega, List.drop_zero]
  | d + 1, i, h => by
    have hj : wrap64 (wrap64 ((l.length : Int) - 1) - (i : Int)) = ((l.length - i - 1 : Nat) : Int) := by rw [Hand.w64 (n := (l.length : Int) - 1) (by omega) (by omega), Hand.w64 (by omega) (by omega)]; omega
    have hlt : l.length - i - 1 < l.length := by omega
    have hd : l.drop (l.length - i - 1) = l[l.length - i - 1] :: l.drop (l.length - i) := by
      rw [List.drop_eq_getElem_cons hlt, show l.length - i - 1 + 1 = l.length - i by omega]
    have hx := hb _ (List.getElem_mem hlt)
    have hbd := leN_bd (l.drop (l.length - i)) (fun y hy => hb y (List.mem_of_mem_drop hy))
    have hp := pow256_le (m := (l.drop (l.length - i)).length) (by rw [List.length_drop]; omega)
    rw [wide_Get.l0, if_pos (by omega), if_pos rfl, hj, if_pos (by omega), if_pos (by omega), Hand.rd_at hlt, get_or hbd.1 (by omega) hx.1 hx.2,
      show wrap64 ((i : Int) + 1) = ((i + 1 : Nat) : Int) by rw [Hand.w64 (by omega) (by omega)]; rfl]
    have ih := get_le_from l hb hl d (i + 1) (by omega)
    rw [show l.length - (i + 1) = l.length - i - 1 by omega, hd, leN] at ih
    exact ih
theorem get_le (l : List Int) (hb : ByteL l) (hl : l.length ≤ 8) : wide_Get.f (l.length + 1) l true = some (leN l) := by
  have := get_le_from l hb hl l.length 0 (by omega)
  rw [Nat.sub_zero, List.drop_length] at this
  exact this
theorem get_le.calls (A : Option Addr) (c m : Nat) (l : List Int) (w : World) (hr : Kd.C (Kd.int .u8) w A m l) (hc : m ≤ c) (hb : ByteL l) (hl : m ≤ 8) :
    Calls Try.prog 36 #[.slice A m c, .bool true] w fun e w' => e = .returned (.int .u64 (leN l)) ∧ Drawn0 w w' := by
  have hlen : l.length = m := hr.1
  subst hlen
  exact wide_Get.calls _ A c l true _ w hr hc (get_le l hb hl)

end Go.Proofs.Ytcinmodpfdehpaa.P
