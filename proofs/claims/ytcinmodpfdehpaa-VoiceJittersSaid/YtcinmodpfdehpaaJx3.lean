/- Laid by a program of this repo over the translation: each Go function as a plain Lean function with the proof that the call comes to its answers, or a statement's row out of these; conditions: the hypotheses of each theorem. -/
import Derived.Test.YtcinmodpfdehpaaJx0
namespace Go.Proofs.Ytcinmodpfdehpaa.J
open Go.RowKit Go.Proofs.YtcinmodpfdehpaaW.PrintWords Go.Proofs.YtcinmodpfdehpaaW.PrintLast Go.Proofs.YtcinmodpfdehpaaW.PrintMore
attribute [local go_sem] max2_int min2_int max_two min_two max_three min_three max_four min_four   -- for this text's walks alone
set_option linter.unusedVariables false
set_option linter.unusedSimpArgs false

/-! ### wireglassref02_SameInts: function 9 -/
def wireglassref02_SameInts.l0 : Nat → List Int → List Int → Int → Option (Bool)
  | 0, _, _, _ => none
  | k + 1, x0, x1, x5 => if x5 < (x0.length : Int) then (if 0 ≤ x5 then (if x5 < (x1.length : Int) then (if (rd x0 x5) = (rd x1 x5) then (wireglassref02_SameInts.l0 k x0 x1 (wrap64 (x5 + 1))) else (some false)) else (none)) else (none)) else (some true)
def wireglassref02_SameInts.f (k : Nat) (l0 : List Int) (l1 : List Int) : Option (Bool) := if (l0.length : Int) = (l1.length : Int) then (wireglassref02_SameInts.l0 k l0 l1 0) else (some false)
theorem wireglassref02_SameInts.mono_l : ∀ k, (∀ y0 y1 y2, LeO (wireglassref02_SameInts.l0 k y0 y1 y2) (wireglassref02_SameInts.l0 (k + 1) y0 y1 y2))
  | 0 => fun _ _ _ r h => by simp [wireglassref02_SameInts.l0] at h
  | k + 1 => by
    have ih0 := wireglassref02_SameInts.mono_l k
    · intro y0 y1 y2
      unfold wireglassref02_SameInts.l0
      repeat' first
      | (with_reducible exact ih0 _ _ _)
      | (with_reducible exact LeO.refl _)
      | (with_reducible exact LeO.none _)
      | (with_reducible refine LeO.ite ?_ ?_)
      | (with_reducible refine LeO.bind ?_ (fun _ => ?_))
      | exact ih0 _ _ _
      | exact LeO.none _
      | refine LeO.ite ?_ ?_
      | refine LeO.bind ?_ (fun _ => ?_)
theorem wireglassref02_SameInts.mono : ∀ a0 a1 k, LeO (wireglassref02_SameInts.f k a0 a1) (wireglassref02_SameInts.f (k + 1) a0 a1) := by
  intro a0 a1 k
  have ih0 := wireglassref02_SameInts.mono_l k
  unfold wireglassref02_SameInts.f
  repeat' first
      | (with_reducible exact ih0 _ _ _)
      | (with_reducible exact LeO.refl _)
      | (with_reducible exact LeO.none _)
      | (with_reducible refine LeO.ite ?_ ?_)
      | (with_reducible refine LeO.bind ?_ (fun _ => ?_))
      | exact ih0 _ _ _
      | exact LeO.none _
      | refine LeO.ite ?_ ?_
      | refine LeO.bind ?_ (fun _ => ?_)
set_option maxHeartbeats 8000000 in
set_option maxRecDepth 100000 in
theorem wireglassref02_SameInts.calls (k : Nat) (A0 : Option Addr) (c0 : Nat) (l0 : List Int) (A1 : Option Addr) (c1 : Nat) (l1 : List Int) (r : Bool) (w : World) (hr0 : Kd.C (Kd.int .i64) w A0 l0.length l0) (hc0 : l0.length ≤ c0) (hr1 : Kd.C (Kd.int .i64) w A1 l1.length l1) (hc1 : l1.length ≤ c1) (h : wireglassref02_SameInts.f k l0 l1 = some r) :
    Calls Try.prog 9 #[.slice A0 l0.length c0, .slice A1 l1.length c1] w fun e w' => e = .returned (.bool r) ∧ Drawn0 w w' := by
  have HR0 := Aside0.mk hr0
  have HC0 := Aside0.mk hc0
  clear hr0 hc0
  have HR1 := Aside0.mk hr1
  have HC1 := Aside0.mk hc1
  clear hr1 hc1
  have H : (if (l0.length : Int) = (l1.length : Int) then (wireglassref02_SameInts.l0 k l0 l1 0) else (some false)) = some r := h
  clear h
  by_cases c3 : (l0.length : Int) = (l1.length : Int)
  · rw [if_pos c3] at H
    have c3b0 : ((l0.length : Int) == (l1.length : Int)) = true := beq_iff_eq.mpr c3
    have c3b1 : ((l0.length : Int) != (l1.length : Int)) = false := bne_eq_false_iff_eq.mpr c3
    have c3b2 : (l0.length == l1.length) = true := by first | simpa using c3 | (simp at c3 ⊢; omega)
    clear c3
    have H' := Aside0.mk H
    clear H
    go_enter Try.func9, Try.ntmps9
    go_wp2
    repeat (go_quiet (fail); try go_wp2)
    go_loopg [5] k (fun kq v5 w' => ∃ (x5_1 : Int), v5 = .int .i64 x5_1 ∧ Aside0 (wireglassref02_SameInts.l0 kq l0 l1 x5_1 = some r) ∧ Aside0 (kq ≤ k) ∧ Drawn0 w w')
    case atStart => exact ⟨(0), (by first | rfl | (simp; done) | (simp [*]; done)), H', ⟨Nat.le_refl _⟩, by repeat (first | exact Drawn0.refl _ | apply Drawn0.step)⟩
    case round =>
      clear H'
      try clear c1
      try clear p2
      try clear c3
      try clear c3b0
      try clear c3b1
      try clear c3b2
      obtain ⟨x5_1, rfl, HA, HK1, ⟨m1, rfl⟩⟩ := hrel
      cases gk with
      | zero => exact absurd HA.out (by simp [wireglassref02_SameInts.l0])
      | succ k1 =>
        have H := HA.out
        clear HA
        simp only [wireglassref02_SameInts.l0] at H
        by_cases c4 : x5_1 < (l0.length : Int)
        · rw [if_pos c4] at H
          have c4b0 : decide (x5_1 < (l0.length : Int)) = true := decide_eq_true c4
          clear c4
          by_cases c5 : 0 ≤ x5_1
          · rw [if_pos c5] at H
            have c5b0 : decide (0 ≤ x5_1) = true := decide_eq_true c5
            clear c5
            by_cases c6 : x5_1 < (l1.length : Int)
            · rw [if_pos c6] at H
              have c6b0 : decide (x5_1 < (l1.length : Int)) = true := decide_eq_true c6
              clear c6
              by_cases c7 : (rd l0 x5_1) = (rd l1 x5_1)
              · rw [if_pos c7] at H
                have c7b0 : ((rd l0 x5_1) == (rd l1 x5_1)) = true := beq_iff_eq.mpr c7
                have c7b1 : ((rd l0 x5_1) != (rd l1 x5_1)) = false := bne_eq_false_iff_eq.mpr c7
                clear c7
                have H' := Aside0.mk H
                clear H
                have p146 : 0 ≤ (x5_1 : Int) := of_decide_eq_true (by first | (with_reducible assumption) | assumption)
                have q146 : x5_1 < (l0.length : Int) := of_decide_eq_true (by first | (with_reducible assumption) | assumption)
                obtain ⟨ad146, e146, hx146_0⟩ := Kd.at_int HR0.out x5_1 p146 q146
                cases e146
                replace p146 := eq_true p146
                replace q146 := eq_true q146
                have p147 : 0 ≤ (x5_1 : Int) := of_decide_eq_true (by first | (with_reducible assumption) | assumption)
                have q147 : x5_1 < (l1.length : Int) := of_decide_eq_true (by first | (with_reducible assumption) | assumption)
                obtain ⟨ad147, e147, hx147_0⟩ := Kd.at_int HR1.out x5_1 p147 q147
                cases e147
                replace p147 := eq_true p147
                replace q147 := eq_true q147
                go_wp2
                repeat (go_quiet (fail); try go_wp2)
                go_roundg k1
                case measure => have := HK1.out; omega
                case rel => exact ⟨(wrap64 (x5_1 + 1)), (by first | rfl | (simp; done) | (simp [*]; done)), H', ⟨by have := HK1.out; omega⟩, by repeat (first | exact Drawn0.refl _ | apply Drawn0.step)⟩
              · rw [if_neg c7] at H
                have c7b0 : ((rd l0 x5_1) == (rd l1 x5_1)) = false := beq_eq_false_iff_ne.mpr c7
                have c7b1 : ((rd l0 x5_1) != (rd l1 x5_1)) = true := bne_iff_ne.mpr c7
                obtain rfl := Option.some.inj H
                have p146 : 0 ≤ (x5_1 : Int) := of_decide_eq_true (by first | (with_reducible assumption) | assumption)
                have q146 : x5_1 < (l0.length : Int) := of_decide_eq_true (by first | (with_reducible assumption) | assumption)
                obtain ⟨ad146, e146, hx146_0⟩ := Kd.at_int HR0.out x5_1 p146 q146
                cases e146
                replace p146 := eq_true p146
                replace q146 := eq_true q146
                have p147 : 0 ≤ (x5_1 : Int) := of_decide_eq_true (by first | (with_reducible assumption) | assumption)
                have q147 : x5_1 < (l1.length : Int) := of_decide_eq_true (by first | (with_reducible assumption) | assumption)
                obtain ⟨ad147, e147, hx147_0⟩ := Kd.at_int HR1.out x5_1 p147 q147
                cases e147
                replace p147 := eq_true p147
                replace q147 := eq_true q147
                go_wp2
                repeat (go_quiet (fail); try go_wp2)
                go_ret
                exact ⟨by first | rfl | (simp; done) | (simp [*]; done), by repeat (first | exact Drawn0.refl _ | apply Drawn0.step)⟩
            · rw [if_neg c6] at H
              exact absurd H (by simp)
          · rw [if_neg c5] at H
            exact absurd H (by simp)
        · rw [if_neg c4] at H
          have c4b0 : decide (x5_1 < (l0.length : Int)) = false := decide_eq_false c4
          clear c4
          obtain rfl := Option.some.inj H
          go_wp2
          repeat (go_quiet (fail); try go_wp2)
          go_ret
          exact ⟨by first | rfl | (simp; done) | (simp [*]; done), by repeat (first | exact Drawn0.refl _ | apply Drawn0.step)⟩
  · rw [if_neg c3] at H
    have c3b0 : ((l0.length : Int) == (l1.length : Int)) = false := beq_eq_false_iff_ne.mpr c3
    have c3b1 : ((l0.length : Int) != (l1.length : Int)) = true := bne_iff_ne.mpr c3
    have c3b2 : (l0.length == l1.length) = false := by first | simpa using c3 | (simp at c3 ⊢; omega)
    obtain rfl := Option.some.inj H
    go_enter Try.func9, Try.ntmps9
    go_wp2
    repeat (go_quiet (fail); try go_wp2)
    go_ret
    exact ⟨by first | rfl | (simp; done) | (simp [*]; done), by repeat (first | exact Drawn0.refl _ | apply Drawn0.step)⟩

-- NOT PRINTED: function 46 (api_Sample_46)

-- NOT PRINTED: function 34 (api_Sample_34)

/-! ### voice_asked: function 16 -/
-- EXT rounds=0 making=1
def sOk (x : S39) : Bool := decide ((0 ≤ x.f0 ∧ x.f0 ≤ 65535) ∧ (0 ≤ x.f1 ∧ x.f1 ≤ 4294967295) ∧ (0 ≤ x.f2 ∧ x.f2 ≤ 1000000000000000))
def sIdx : List S39 → Int → Int
  | [], _ => -1
  | x :: r, i => if sOk x = true then sIdx r (i + 1) else i
theorem ret_b {a b : Bool} (h : a = b) : Ending.returned (.bool a) = .returned (.bool b) := by rw [h]
theorem sIdx_all : ∀ (l : List S39) (i : Int), 0 ≤ i → decide (0 ≤ sIdx l i) = !(l.all sOk)
  | [], i, _ => rfl
  | x :: r, i, h => by
    simp only [sIdx, List.all_cons]
    by_cases c : sOk x = true
    · simp only [c, if_true, Bool.true_and]; exact sIdx_all r (i + 1) (by omega)
    · have : sOk x = false := by simpa using c
      simp [this, h]
set_option maxHeartbeats 4000000 in
theorem voice_sbad.calls (x : S39) (A3 : Option Addr) (c3 : Nat) (w : World) : Calls Try.prog 35 #[.agg #[.int .i64 x.f0, .int .i64 x.f1, .int .i64 x.f2, .slice A3 x.f3.length c3]] w fun e w' => e = .returned (.bool (!(sOk x))) ∧ Below w.heap.size w w' := by
  obtain ⟨a, b, c, d⟩ := x
  have HS : Aside0 (sOk ⟨a, b, c, d⟩ = decide ((0 ≤ a ∧ a ≤ 65535) ∧ (0 ≤ b ∧ b ≤ 4294967295) ∧ (0 ≤ c ∧ c ≤ 1000000000000000))) := ⟨rfl⟩
  rw [HS.out]
  obtain ⟨r, hr⟩ : ∃ r, decide ((0 ≤ a ∧ a ≤ 65535) ∧ (0 ≤ b ∧ b ≤ 4294967295) ∧ (0 ≤ c ∧ c ≤ 1000000000000000)) = r := ⟨_, rfl⟩
  have HR := Aside0.mk hr
  rw [hr]
  clear hr
  go_enter Try.func35, Try.ntmps35
  go_wp2
  all_goals (go_ret; refine ⟨ret_b ?_, below_alloc (Below.refl _ _) _⟩; rw [← HR.out, Bool.eq_iff_iff]; simp; omega)
set_option maxHeartbeats 4000000 in
theorem voice_sidx.calls (A0 : Option Addr) (c0 : Nat) (l0 : List S39) (w : World) (hr0 : Kd.C k39 w A0 l0.length l0) (_hc0 : l0.length ≤ c0) :
    Calls Try.prog 46 #[.slice A0 l0.length c0, .func (.func 35) #[] #[]] w fun e w' => e = .returned (.int .i64 (sIdx l0 0)) ∧ Below w.heap.size w w' := by
  have hm := Kd.C_max hr0
  have HR0 := Aside0.mk hr0
  clear hr0
  obtain ⟨R, hR⟩ : ∃ R, sIdx l0 0 = R := ⟨_, rfl⟩
  rw [hR]
  have H' := Aside0.mk hR
  clear hR
  go_enter Try.func46, Try.ntmps46
  go_wp2
  go_loopg [8] l0.length (fun kq v8 w' => ∃ i : Int, v8 = .int .i64 i ∧ 0 ≤ i ∧ i ≤ l0.length ∧ i + kq = l0.length ∧ Aside0 (sIdx (l0.drop i.toNat) i = R) ∧ Aside0 (Below w.heap.size w w'))
  case atStart => exact ⟨0, rfl, by omega, by omega, by omega, H', ⟨Below.refl _ _⟩⟩
  case round =>
    clear H'
    obtain ⟨i, rfl, h0, h1, hk, HA, HB⟩ := hrel
    by_cases c : i < (l0.length : Int)
    · obtain ⟨ad, A3, c3, e, y0, y1, y2, y3, _, _⟩ := at_T39 (Kd.C_below HR0.out HB.out) i h0 c
      cases e
      have hd : l0.drop i.toNat = rd_T39 l0 i :: l0.drop (i + 1).toNat := by
        rw [show (i + 1).toNat = i.toNat + 1 by omega, List.drop_eq_getElem_cons (by omega : i.toNat < l0.length)]
        congr 1
        unfold rd_T39
        rw [List.getD_eq_getElem?_getD, List.getElem?_eq_getElem (by omega : i.toNat < l0.length)]; rfl
      obtain ⟨x, hx⟩ : ∃ x, rd_T39 l0 i = x := ⟨_, rfl⟩
      rw [hx] at y0 y1 y2 y3 hd
      have HA2 := HA.out
      clear HA hx
      rw [hd, sIdx] at HA2
      clear hd
      have hw : IntKind.i64.wrap (i + 1) = i + 1 := by rw [IntKind.wrap_i64]; omega
      cases hv : sOk x with
      | true =>
        rw [if_pos hv] at HA2
        have H' := Aside0.mk HA2
        clear HA2
        obtain ⟨q, rfl⟩ : ∃ q, gk = q + 1 := ⟨gk - 1, by omega⟩
        have HV := Aside0.mk hv
        clear hv hw
        go_wp2_with (go_at_call 35; (with_reducible refine (voice_sbad.calls x _ _ _).mono ?_); rintro e w' ⟨rfl, hb⟩; have HB1 := Aside0.mk (HB.out.trans (hb.mono HB.out.size)); clear hb; have hv2 := HV.out; rw [hv2]; clear hv2)
        go_roundg q
        case measure => omega
        case rel => exact ⟨i + 1, rfl, by omega, by omega, by omega, H', HB1⟩
      | false =>
        rw [if_neg (by simp [hv])] at HA2
        subst HA2
        have HV := Aside0.mk hv
        clear hv hw
        go_wp2_with (go_at_call 35; (with_reducible refine (voice_sbad.calls x _ _ _).mono ?_); rintro e w' ⟨rfl, hb⟩; have HB1 := Aside0.mk (HB.out.trans (hb.mono HB.out.size)); clear hb; have hv2 := HV.out; rw [hv2]; clear hv2)
        go_ret
        exact ⟨rfl, HB1.out⟩
    · have hd : l0.drop i.toNat = [] := List.drop_eq_nil_of_le (by omega)
      have HA2 := HA.out
      clear HA
      rw [hd, sIdx] at HA2
      subst HA2
      clear hd
      go_wp2
      go_ret
      exact ⟨rfl, HB.out⟩
theorem voice_scontains.calls (A0 : Option Addr) (c0 : Nat) (l0 : List S39) (w : World) (hr0 : Kd.C k39 w A0 l0.length l0) (hc0 : l0.length ≤ c0) :
    Calls Try.prog 34 #[.slice A0 l0.length c0, .func (.func 35) #[] #[]] w fun e w' => e = .returned (.bool (!(l0.all sOk))) ∧ Below w.heap.size w w' := by
  have HE := Aside0.mk (sIdx_all l0 0 (by omega))
  have HR0 := Aside0.mk hr0
  have HC0 := Aside0.mk hc0
  clear hr0 hc0
  go_enter Try.func34, Try.ntmps34
  go_wp2_with (go_at_call 46; (with_reducible refine (voice_sidx.calls A0 c0 l0 _ HR0.out HC0.out).mono ?_); rintro e w' ⟨rfl, hb⟩; have HB1 := Aside0.mk hb; clear hb)
  go_ret
  exact ⟨congrArg (fun b => Ending.returned (.bool b)) HE.out, HB1.out⟩
def voice_asked.f (l0 : List S39) (a1 : Int) : Option Int := some (if (l0.length : Int) > 200 then 3 else if a1 < 1 then 1 else if a1 > 1000000 then 1 else if l0.all sOk = true then 0 else 1)
set_option maxHeartbeats 4000000 in
theorem voice_asked.calls (A0 : Option Addr) (c0 : Nat) (l0 : List S39) (a1 : Int) (r : Int) (w : World) (hr0 : Kd.C k39 w A0 l0.length l0) (hc0 : l0.length ≤ c0) (h : voice_asked.f l0 a1 = some r) :
    Calls Try.prog 16 #[.slice A0 l0.length c0, .int .i64 a1] w fun e w' => e = .returned (.int .i64 r) ∧ Below w.heap.size w w' := by
  have h := Option.some.inj h
  have HR0 := Aside0.mk hr0
  have HC0 := Aside0.mk hc0
  have hm := Kd.C_max hr0
  clear hr0 hc0
  obtain ⟨N, hN⟩ : ∃ N, l0.length = N := ⟨_, rfl⟩
  rw [hN] at h hm ⊢
  have HN := Aside0.mk hN
  clear hN
  by_cases q1 : (N : Int) > 200
  · have b1 : decide (200 < (N : Int)) = true := decide_eq_true q1
    have b2 : decide (200 < N) = true := decide_eq_true (by omega)
    rw [if_pos q1] at h
    subst h
    go_enter Try.func16, Try.ntmps16
    go_wp2
    go_ret
    exact ⟨rfl, Below.refl _ _⟩
  have b1 : decide (200 < (N : Int)) = false := decide_eq_false q1
  have b2 : decide (200 < N) = false := decide_eq_false (by omega)
  rw [if_neg q1] at h
  by_cases q2 : a1 < 1
  · have b3 : decide (a1 < 1) = true := decide_eq_true q2
    rw [if_pos q2] at h
    subst h
    go_enter Try.func16, Try.ntmps16
    go_wp2
    go_ret
    exact ⟨rfl, Below.refl _ _⟩
  have b3 : decide (a1 < 1) = false := decide_eq_false q2
  rw [if_neg q2] at h
  by_cases q3 : a1 > 1000000
  · have b4 : decide (1000000 < a1) = true := decide_eq_true q3
    rw [if_pos q3] at h
    subst h
    go_enter Try.func16, Try.ntmps16
    go_wp2
    go_ret
    exact ⟨rfl, Below.refl _ _⟩
  have b4 : decide (1000000 < a1) = false := decide_eq_false q3
  rw [if_neg q3] at h
  have HCC : Aside0 (∀ w', Kd.C k39 w' A0 l0.length l0 → Calls Try.prog 34 #[.slice A0 N c0, .func (.func 35) #[] #[]] w' fun e w'' => e = .returned (.bool (!(l0.all sOk))) ∧ Below w'.heap.size w' w'') := ⟨fun w' h => by rw [← HN.out]; exact voice_scontains.calls A0 c0 l0 w' h HC0.out⟩
  cases hv : l0.all sOk with
  | true =>
    rw [if_pos hv] at h
    subst h
    have HV := Aside0.mk hv
    clear hv q1 q2 q3
    go_enter Try.func16, Try.ntmps16
    go_wp2_with (go_at_call 34; (with_reducible refine (HCC.out _ HR0.out).mono ?_); rintro e w' ⟨rfl, hb⟩; have HB1 := Aside0.mk hb; clear hb; have hv2 := HV.out; rw [hv2]; clear hv2)
    go_ret
    exact ⟨rfl, HB1.out⟩
  | false =>
    rw [if_neg (by simp [hv])] at h
    subst h
    have HV := Aside0.mk hv
    clear hv q1 q2 q3
    go_enter Try.func16, Try.ntmps16
    go_wp2_with (go_at_call 34; (with_reducible refine (HCC.out _ HR0.out).mono ?_); rintro e w' ⟨rfl, hb⟩; have HB1 := Aside0.mk hb; clear hb; have hv2 := HV.out; rw [hv2]; clear hv2)
    go_ret
    exact ⟨rfl, HB1.out⟩

/-! ### bits_Mul64: function 49 -/
def bits_Mul64.f (a0 : Int) (a1 : Int) : Option (Int × Int) := some (IntKind.u64.wrap ((IntKind.u64.wrap ((IntKind.u64.wrap ((a0 / 4294967296) * (a1 / 4294967296))) + ((IntKind.u64.wrap ((IntKind.u64.wrap ((a0 / 4294967296) * (Go.bits .and .u64 a1 4294967295))) + ((IntKind.u64.wrap ((Go.bits .and .u64 a0 4294967295) * (Go.bits .and .u64 a1 4294967295))) / 4294967296))) / 4294967296))) + ((IntKind.u64.wrap ((Go.bits .and .u64 (IntKind.u64.wrap ((IntKind.u64.wrap ((a0 / 4294967296) * (Go.bits .and .u64 a1 4294967295))) + ((IntKind.u64.wrap ((Go.bits .and .u64 a0 4294967295) * (Go.bits .and .u64 a1 4294967295))) / 4294967296))) 4294967295) + (IntKind.u64.wrap ((Go.bits .and .u64 a0 4294967295) * (a1 / 4294967296))))) / 4294967296)), IntKind.u64.wrap (a0 * a1))
set_option maxHeartbeats 8000000 in
set_option maxRecDepth 100000 in
theorem bits_Mul64.calls (a0 : Int) (a1 : Int) (r1 : Int) (r2 : Int) (w : World) (h : bits_Mul64.f a0 a1 = some (r1, r2)) :
    Calls Try.prog 49 #[.int .u64 a0, .int .u64 a1] w fun e w' => e = .returned (.tuple #[.int .u64 r1, .int .u64 r2]) ∧ Drawn0 w w' := by
  have H : (some (IntKind.u64.wrap ((IntKind.u64.wrap ((IntKind.u64.wrap ((a0 / 4294967296) * (a1 / 4294967296))) + ((IntKind.u64.wrap ((IntKind.u64.wrap ((a0 / 4294967296) * (Go.bits .and .u64 a1 4294967295))) + ((IntKind.u64.wrap ((Go.bits .and .u64 a0 4294967295) * (Go.bits .and .u64 a1 4294967295))) / 4294967296))) / 4294967296))) + ((IntKind.u64.wrap ((Go.bits .and .u64 (IntKind.u64.wrap ((IntKind.u64.wrap ((a0 / 4294967296) * (Go.bits .and .u64 a1 4294967295))) + ((IntKind.u64.wrap ((Go.bits .and .u64 a0 4294967295) * (Go.bits .and .u64 a1 4294967295))) / 4294967296))) 4294967295) + (IntKind.u64.wrap ((Go.bits .and .u64 a0 4294967295) * (a1 / 4294967296))))) / 4294967296)), IntKind.u64.wrap (a0 * a1))) = some (r1, r2) := h
  clear h
  simp only [Option.some.injEq, Prod.mk.injEq] at H
  obtain ⟨rfl, rfl⟩ := H
  go_enter Try.func49, Try.ntmps49
  go_wp2
  go_ret2
  exact ⟨by first | rfl | (simp; done) | (simp [*]; done), by repeat (first | exact Drawn0.refl _ | apply Drawn0.step)⟩

/-! ### wide_size: function 50 -/
def wide_size.f (a0 : Int) : Option (Int) := some (IntKind.u64.wrap (mx a0 (wrap64 (-a0))))
set_option maxHeartbeats 8000000 in
set_option maxRecDepth 100000 in
theorem wide_size.calls (a0 : Int) (r : Int) (w : World) (h : wide_size.f a0 = some r) :
    Calls Try.prog 50 #[.int .i64 a0] w fun e w' => e = .returned (.int .u64 r) ∧ Below w.heap.size w w' := by
  have HB := Aside0.mk (Below.refl w.heap.size w)
  have H : (some (IntKind.u64.wrap (mx a0 (wrap64 (-a0))))) = some r := h
  clear h
  obtain ⟨ji2, hji2⟩ : ∃ j_ : Int, (mx a0 (wrap64 (-a0))) = j_ := ⟨_, rfl⟩
  replace H : (some (IntKind.u64.wrap (ji2))) = some r := by first | (rw [hji2] at H; exact H) | (simp only [hji2] at H ⊢; exact H)
  have hji2_ : (if a0 < (wrap64 (-a0)) then (wrap64 (-a0)) else a0) = ji2 := hji2
  obtain rfl := Option.some.inj H
  go_enter Try.func50, Try.ntmps50
  go_wp2
  go_ret
  exact ⟨by first | rfl | (simp [errW_none, errW_some] <;> rfl) | (simp only [← hji2]; first | rfl | (simp [errW_none, errW_some] <;> rfl)) | (simp [*, errW_none, errW_some] <;> rfl), by repeat (first | (with_reducible first | exact HB.out | apply below_alloc | apply pw_below_drewN | apply below_drew1) | exact HB.out)⟩

/-! ### bits_Len64: function 55 -/
-- EXT HIDDEN

-- NOT PRINTED: function 54 (bits_LeadingZeros64)

-- NOT PRINTED: function 51 (bits_Div64)

-- NOT PRINTED: function 40 (wide_MulDiv)

/-! ### voice_units: function 25 -/
-- EXT rounds=0 making=1
theorem u64b (a : Int) (h1 : 0 ≤ a) (h2 : a < 18446744073709551616) : (BitVec.ofInt 64 a).toNat = a.toNat := by
  rw [BitVec.toNat_ofInt]
  show (a % 18446744073709551616).toNat = a.toNat
  rw [Int.emod_eq_of_lt h1 h2]
theorem and_mask64 (a : Int) (h1 : 0 ≤ a) (h2 : a < 18446744073709551616) : Go.bits .and .u64 a 4294967295 = a % 4294967296 := by
  simp only [Go.bits, BitVec.toNat_and]
  rw [show IntKind.u64.bits = 64 from rfl, u64b a h1 h2, u64b 4294967295 (by decide) (by decide), IntKind.wrap_u64]
  have e : a.toNat &&& (4294967295 : Int).toNat = a.toNat % 4294967296 := Nat.and_two_pow_sub_one_eq_mod a.toNat 32
  rw [e]
  omega
theorem or_hl (hi lo : Int) (h0 : 0 ≤ hi) (h1 : hi ≤ 60) (l0 : 0 ≤ lo) (l1 : lo < 18446744073709551616) : Go.bits .or .u64 (hi * 17592186044416) (lo / 1048576) = hi * 17592186044416 + lo / 1048576 := by
  rw [Hand.or_u64' (by omega) (by omega) (by omega) (by omega)]
  unfold Hand.og
  have := Nat.two_pow_add_eq_or_of_lt (i := 44) (b := (lo / 1048576).toNat) (by omega) hi.toNat
  rw [show (hi * 17592186044416).toNat = 2 ^ 44 * hi.toNat by omega, ← this]
  omega
/-- The long division, where the divisor is a million: of plain numbers. -/
theorem div_two (hi lo : Int) (h0 : 0 ≤ hi) (h1 : hi ≤ 60) (l0 : 0 ≤ lo) (l1 : lo < 18446744073709551616) (U V q rh q0 : Int) (hU : U = hi * 17592186044416 + lo / 1048576) (hV : V = lo % 1048576 * 4096) (hq : q = U / 4096000000) (hr : rh = U - q * 4096000000) (hq0 : q0 = (rh * 4294967296 + V) / 4096000000) :
    q * 4294967296 + q0 = (hi * 18446744073709551616 + lo) / 1000000 ∧ 0 ≤ q0 ∧ q0 < 4294967296 ∧ 0 ≤ q ∧ q ≤ 300000 ∧ 0 ≤ rh ∧ rh < 4096000000 ∧ 0 ≤ V ∧ V < 4294967296 := by
  subst hU hV
  omega
theorem results_tmp3u {fn : Func} {t u v : Tmp} (h : fn.results = #[.tmp t, .tmp u, .tmp v]) (tmps : Array Value) (P : Program) (w : World) :
    (results fn tmps).run P w = .ok (.tuple #[tmps.getD t undef, tmps.getD u undef, tmps.getD v undef]) w := by
  simp [results, h]
theorem ret_i {a b : Int} (h : a = b) : Ending.returned (.int .i64 a) = .returned (.int .i64 b) := by rw [h]
set_option maxRecDepth 100000 in
theorem len64m.calls (w : World) : Calls Try.prog 55 #[.int .u64 1000000] w fun e w' => e = .returned (.int .i64 20) ∧ w = w' := by
  go_enter Try.func55, Try.ntmps55
  go_wp2
  go_ret
  exact ⟨ret_i (by decide +kernel), rfl⟩
theorem lz64m.calls (w : World) : Calls Try.prog 54 #[.int .u64 1000000] w fun e w' => e = .returned (.int .i64 44) ∧ w = w' := by
  go_enter Try.func54, Try.ntmps54
  go_wp2_with (go_at_call 55; (with_reducible refine (len64m.calls _).mono ?_); rintro e w' ⟨rfl, rfl⟩)
  go_ret
  exact ⟨rfl, rfl⟩
set_option maxHeartbeats 4000000 in
theorem div64m.calls (hi lo : Int) (w : World) (h0 : 1 ≤ hi) (h1 : hi ≤ 60) (l0 : 0 ≤ lo) (l1 : lo < 18446744073709551616) : Calls Try.prog 51 #[.int .u64 hi, .int .u64 lo, .int .u64 1000000] w fun e w' => ∃ r, e = .returned (.tuple #[.int .u64 ((hi * 18446744073709551616 + lo) / 1000000), .int .u64 r]) ∧ w = w' := by
  have b1 : decide (1000000 ≤ hi) = false := decide_eq_false (by omega)
  have b2 : (hi == 0) = false := beq_eq_false_iff_ne.2 (by omega)
  have HB := Aside0.mk (And.intro h0 (And.intro h1 (And.intro l0 l1)))
  have HOR := Aside0.mk (or_hl hi lo (by omega) h1 l0 l1)
  go_enter Try.func51, Try.ntmps51
  go_upto_region 12 with (go_at_call 54; (with_reducible refine (lz64m.calls _).mono ?_); rintro e w' ⟨rfl, rfl⟩)
  rw [HOR.out, show Go.bits .and .u64 17592186044416000000 4294967295 = 0 from by decide +kernel]
  obtain ⟨U, hU⟩ : ∃ U, hi * 17592186044416 + lo / 1048576 = U := ⟨_, rfl⟩
  rw [hU]
  have HU := Aside0.mk hU.symm
  have u0 : 0 ≤ U := by omega
  have u1 : U ≤ 1073123348709376 := by omega
  clear hU b1 b2
  go_upto_region 15 with (fail)
  obtain ⟨L, hL⟩ : ∃ L, IntKind.u64.wrap (lo * 17592186044416) = L := ⟨_, rfl⟩
  have hL2 : L = lo % 1048576 * 17592186044416 := by rw [← hL, IntKind.wrap_u64]; omega
  rw [hL, and_mask64 L (by omega) (by omega), show L % 4294967296 = 0 by omega]
  obtain ⟨V, hV⟩ : ∃ V, L / 4294967296 = V := ⟨_, rfl⟩
  rw [hV]
  have hV2 : V = lo % 1048576 * 4096 := by omega
  have HV := Aside0.mk hV2
  have v0 : 0 ≤ V := by omega
  have v1 : V ≤ 4294967295 := by omega
  clear hL hL2 hV hV2
  go_upto_region 16 with (fail)
  obtain ⟨q, hq⟩ : ∃ q, U / 4096000000 = q := ⟨_, rfl⟩
  rw [hq]
  have HQ := Aside0.mk hq.symm
  have q0 : 0 ≤ q := by omega
  have q1 : q ≤ 300000 := by omega
  have r0 : 0 ≤ U - q * 4096000000 := by omega
  have r1 : U - q * 4096000000 ≤ 4095999999 := by omega
  have HR := Aside0.mk (And.intro r0 r1)
  clear hq
  have b5 : decide (4294967296 ≤ q) = false := decide_eq_false (by omega)
  go_upto_region 17 with (fail)
  obtain ⟨rh, hr⟩ : ∃ rh, U - q * 4096000000 = rh := ⟨_, rfl⟩
  rw [hr] at HR ⊢
  have HRH := Aside0.mk hr.symm
  have r2 := HR.out.1
  have r3 := HR.out.2
  clear hr r0 r1
  have b6 : decide (4294967296 * rh + V < 0) = false := decide_eq_false (by omega)
  go_loopg [15, 16] 0 (fun kq v15 v16 W' => v15 = .int .u64 q ∧ v16 = .int .u64 rh ∧ kq = 0 ∧ w = W')
  case atStart => exact ⟨rfl, rfl, rfl, rfl⟩
  case round =>
    obtain ⟨rfl, rfl, rfl, rfl⟩ := hrel
    go_upto_region 22 with (fail)
    obtain ⟨D, hD⟩ : ∃ D, IntKind.u64.wrap (IntKind.u64.wrap (IntKind.u64.wrap (U * 4294967296) + V) - IntKind.u64.wrap (q * 17592186044416000000)) = D := ⟨_, rfl⟩
    have hD2 : D = rh * 4294967296 + V := by
      have := HRH.out
      rw [← hD]
      simp only [IntKind.wrap_u64]
      omega
    rw [hD]
    have HDD := Aside0.mk hD2
    have d0 : 0 ≤ D := by omega
    have d1 : D < 17592186044416000000 := by omega
    clear hD hD2
    go_upto_region 23 with (fail)
    obtain ⟨p, hp⟩ : ∃ p, D / 4096000000 = p := ⟨_, rfl⟩
    rw [hp]
    have HP := Aside0.mk hp.symm
    have p0 : 0 ≤ p := by omega
    have p1 : p ≤ 4294967295 := by omega
    have r4 : 0 ≤ D - p * 4096000000 := by omega
    have r5 : D - p * 4096000000 ≤ 4095999999 := by omega
    clear hp
    have b7 : decide (4294967296 ≤ p) = false := decide_eq_false (by omega)
    go_upto_region 24 with (fail)
    obtain ⟨rk, hr⟩ : ∃ rk, D - p * 4096000000 = rk := ⟨_, rfl⟩
    rw [hr] at r4 r5
    rw [hr]
    clear hr
    have b8 : decide (4294967296 * rk < 0) = false := decide_eq_false (by omega)
    go_loopg [16, 18] 0 (fun kq v16 v18 W' => v18 = .int .u64 p ∧ v16 = .int .u64 rk ∧ kq = 0 ∧ w = W')
    case atStart => exact ⟨rfl, rfl, rfl, rfl⟩
    case round =>
      obtain ⟨rfl, rfl, rfl, rfl⟩ := hrel
      have hfin := div_two hi lo (by have := HB.out; omega) HB.out.2.1 HB.out.2.2.1 HB.out.2.2.2 U V q rh p HU.out HV.out HQ.out HRH.out (by rw [← HDD.out]; exact HP.out)
      have HF := Aside0.mk hfin.1
      clear hfin
      go_wp2
      go_ret2
      exact ⟨_, by rw [← HF.out]; rfl, rfl⟩
set_option maxHeartbeats 4000000 in
theorem div64z.calls (lo : Int) (w : World) (l0 : 0 ≤ lo) (l1 : lo < 18446744073709551616) : Calls Try.prog 51 #[.int .u64 0, .int .u64 lo, .int .u64 1000000] w fun e w' => ∃ r, e = .returned (.tuple #[.int .u64 (lo / 1000000), .int .u64 r]) ∧ Drawn0 w w' := by
  go_enter Try.func51, Try.ntmps51
  go_wp2
  go_region
  go_wp2
  go_ret2
  exact ⟨_, rfl, by repeat (first | exact Drawn0.refl _ | apply Drawn0.step)⟩
theorem mul64_is (a b : Int) (a0 : 0 ≤ a) (a1 : a ≤ 1000000000000000) (b0 : 1 ≤ b) (b1 : b ≤ 1000000) : bits_Mul64.f a b = some (a * b / 18446744073709551616, a * b % 18446744073709551616) ∧ 0 ≤ a * b ∧ a * b ≤ 1000000000000000000000 := by
  have hA0 : 0 ≤ a % 4294967296 * b := Int.mul_nonneg (by omega) (by omega)
  have hA1 : a % 4294967296 * b ≤ 4294967295 * 1000000 := Int.mul_le_mul (by omega) b1 (by omega) (by omega)
  have hB0 : 0 ≤ a / 4294967296 * b := Int.mul_nonneg (by omega) (by omega)
  have hB1 : a / 4294967296 * b ≤ 232831 * 1000000 := Int.mul_le_mul (by omega) b1 (by omega) (by omega)
  have hP1 : a * b ≤ 1000000000000000 * 1000000 := Int.mul_le_mul a1 b1 (by omega) (by omega)
  have hP : a * b = a / 4294967296 * b * 4294967296 + a % 4294967296 * b := by
    have e : a = a / 4294967296 * 4294967296 + a % 4294967296 := by omega
    calc a * b = (a / 4294967296 * 4294967296 + a % 4294967296) * b := by rw [← e]
      _ = a / 4294967296 * b * 4294967296 + a % 4294967296 * b := by rw [Int.add_mul, Int.mul_right_comm]
  unfold bits_Mul64.f
  rw [and_mask64 b (by omega) (by omega), and_mask64 a (by omega) (by omega), show b / 4294967296 = 0 by omega, show b % 4294967296 = b by omega, Int.mul_zero, Int.mul_zero]
  obtain ⟨A, hA⟩ : ∃ A, a % 4294967296 * b = A := ⟨_, rfl⟩
  obtain ⟨B, hB⟩ : ∃ B, a / 4294967296 * b = B := ⟨_, rfl⟩
  obtain ⟨Q, hQ⟩ : ∃ Q, a * b = Q := ⟨_, rfl⟩
  rw [hA] at hA0 hA1 hP ⊢
  rw [hB] at hB0 hB1 hP ⊢
  rw [hQ] at hP hP1 ⊢
  simp only [IntKind.wrap_u64]
  rw [show A % 18446744073709551616 = A by omega, show B % 18446744073709551616 = B by omega, show (B + A / 4294967296) % 18446744073709551616 = B + A / 4294967296 by omega, and_mask64 _ (by omega) (by omega)]
  refine ⟨?_, by omega, by omega⟩
  congr 2
  omega
theorem size_is (a : Int) (a0 : 0 ≤ a) (a1 : a ≤ 1000000000000000) : wide_size.f a = some a := by
  unfold wide_size.f
  have e : wrap64 (-a) = -a := by unfold wrap64; omega
  rw [e, IntKind.wrap_u64]
  unfold mx
  congr 1
  split <;> omega
set_option maxHeartbeats 4000000 in
theorem muldivm.calls (a b : Int) (w : World) (a0 : 0 ≤ a) (a1 : a ≤ 1000000000000000) (b0 : 1 ≤ b) (b1 : b ≤ 1000000) : Calls Try.prog 40 #[.int .i64 a, .int .i64 b, .int .i64 1000000] w fun e w' => ∃ r, e = .returned (.tuple #[.int .i64 (a * b / 1000000), .int .i64 r, .bool true]) ∧ Below w.heap.size w w' := by
  obtain ⟨hm, p0, p1⟩ := mul64_is a b a0 a1 b0 b1
  obtain ⟨P, hP⟩ : ∃ P, a * b = P := ⟨_, rfl⟩
  rw [hP] at hm p0 p1 ⊢
  have HM := Aside0.mk hm
  have HSA := Aside0.mk (size_is a a0 a1)
  have HSB := Aside0.mk (size_is b (by omega) (by omega))
  obtain ⟨hi, hh⟩ : ∃ hi, P / 18446744073709551616 = hi := ⟨_, rfl⟩
  obtain ⟨lo, hl⟩ : ∃ lo, P % 18446744073709551616 = lo := ⟨_, rfl⟩
  rw [hh, hl] at HM
  have hs : hi * 18446744073709551616 + lo = P := by omega
  have HS := Aside0.mk hs
  have c0 : 0 ≤ hi := by omega
  have c1 : hi ≤ 60 := by omega
  have c2 : 0 ≤ lo := by omega
  have c3 : lo < 18446744073709551616 := by omega
  have HC := Aside0.mk (And.intro c0 (And.intro c1 (And.intro c2 c3)))
  have t0 : decide (1000000 ≤ hi) = false := decide_eq_false (by omega)
  have t1 : decide (a < 0) = false := decide_eq_false (by omega)
  have t2 : decide (b < 0) = false := decide_eq_false (by omega)
  obtain ⟨n, hn⟩ : ∃ n, P / 1000000 = n := ⟨_, rfl⟩
  rw [hn]
  have n0 : 0 ≤ n := by omega
  have n1 : n ≤ 1000000000000000 := by omega
  have HN := Aside0.mk hn
  have t3 : decide (9223372036854775806 < n) = false := decide_eq_false (by omega)
  by_cases hz : hi = 0
  · subst hz
    have HL : Aside0 (lo / 1000000 = n) := ⟨by rw [← hn, ← hs]; omega⟩
    clear hm hh hl hs hP hn p0 p1 c0 c1
    go_enter Try.func40, Try.ntmps40
    go_wp2_with (first
      | (go_at_call 50; (with_reducible refine (wide_size.calls a a _ HSA.out).mono ?_); rintro e w1 ⟨rfl, hb⟩; have HB1 := Aside0.mk hb; clear hb)
      | (go_at_call 50; (with_reducible refine (wide_size.calls b b _ HSB.out).mono ?_); rintro e w2 ⟨rfl, hb⟩; have HB2 := Aside0.mk (HB1.out.trans (hb.mono HB1.out.size)); clear hb)
      | (go_at_call 49; (with_reducible refine (bits_Mul64.calls a b _ _ _ HM.out).mono ?_); rintro e w3 ⟨rfl, ⟨nd, rfl⟩⟩)
      | (go_at_call 51; (with_reducible refine (div64z.calls lo _ HC.out.2.2.1 HC.out.2.2.2).mono ?_); rw [HL.out]; rintro e w4 ⟨r, rfl, ⟨nd2, rfl⟩⟩))
    (try simp only [Exit.inBlock, Exit.then]); refine bodyPost_ret (results_tmp3u rfl _ _ _) rfl ?_
    exact ⟨_, rfl, by repeat (first | exact HB2.out | apply pw_below_drewN)⟩
  · have HL : Aside0 ((hi * 18446744073709551616 + lo) / 1000000 = n) := ⟨by rw [hs]; exact hn⟩
    have HZ : Aside0 (1 ≤ hi) := ⟨by omega⟩
    clear hm hh hl hs hP hn p0 p1 hz
    go_enter Try.func40, Try.ntmps40
    go_wp2_with (first
      | (go_at_call 50; (with_reducible refine (wide_size.calls a a _ HSA.out).mono ?_); rintro e w1 ⟨rfl, hb⟩; have HB1 := Aside0.mk hb; clear hb)
      | (go_at_call 50; (with_reducible refine (wide_size.calls b b _ HSB.out).mono ?_); rintro e w2 ⟨rfl, hb⟩; have HB2 := Aside0.mk (HB1.out.trans (hb.mono HB1.out.size)); clear hb)
      | (go_at_call 49; (with_reducible refine (bits_Mul64.calls a b _ _ _ HM.out).mono ?_); rintro e w3 ⟨rfl, ⟨nd, rfl⟩⟩)
      | (go_at_call 51; (with_reducible refine (div64m.calls hi lo _ HZ.out HC.out.2.1 HC.out.2.2.1 HC.out.2.2.2).mono ?_); rw [HL.out]; rintro e w4 ⟨r, rfl, rfl⟩))
    (try simp only [Exit.inBlock, Exit.then]); refine bodyPost_ret (results_tmp3u rfl _ _ _) rfl ?_
    exact ⟨_, rfl, by repeat (first | exact HB2.out | apply pw_below_drewN)⟩
def uOk (a b : Int) : Prop := (0 ≤ a ∧ a ≤ 1000000000000000) ∧ (1 ≤ b ∧ b ≤ 1000000)
instance (a b : Int) : Decidable (uOk a b) := by unfold uOk; infer_instance
def voice_units.f (a0 : Int) (a1 : Int) : Option Int := if uOk a0 a1 then some (a0 * a1 / 1000000) else none
theorem voice_units.calls (a0 : Int) (a1 : Int) (r : Int) (w : World) (h : voice_units.f a0 a1 = some r) :
    Calls Try.prog 25 #[.int .i64 a0, .int .i64 a1] w fun e w' => e = .returned (.int .i64 r) ∧ Below w.heap.size w w' := by
  have hq : uOk a0 a1 ∧ a0 * a1 / 1000000 = r := by
    unfold voice_units.f at h
    split at h
    · next hc => exact ⟨hc, Option.some.inj h⟩
    · cases h
  obtain ⟨⟨⟨x0, x1⟩, y0, y1⟩, hr⟩ := hq
  have HR := Aside0.mk hr
  have HX := Aside0.mk (And.intro x0 (And.intro x1 (And.intro y0 y1)))
  clear h hr
  go_enter Try.func25, Try.ntmps25
  go_wp2_with (go_at_call 40; (with_reducible refine (muldivm.calls a0 a1 _ HX.out.1 HX.out.2.1 HX.out.2.2.1 HX.out.2.2.2).mono ?_); rw [HR.out]; rintro e w4 ⟨q, rfl, hb⟩; have HB1 := Aside0.mk hb; clear hb)
  go_ret
  exact ⟨rfl, HB1.out⟩

/-! ### voice_near: function 26 -/
def voice_near.f (a0 : Int) (a1 : Int) : Option (Int) := if a1 = 0 then (none) else (if (Int.tmod (wrap64 ((Int.tmod a0 a1) + a1)) a1) ≥ (wrap64 (Int.tdiv a1 2)) then (some (wrap64 ((Int.tmod (wrap64 ((Int.tmod a0 a1) + a1)) a1) - a1))) else (some (Int.tmod (wrap64 ((Int.tmod a0 a1) + a1)) a1)))
set_option maxHeartbeats 8000000 in
set_option maxRecDepth 100000 in
theorem voice_near.calls (a0 : Int) (a1 : Int) (r : Int) (w : World) (h : voice_near.f a0 a1 = some r) :
    Calls Try.prog 26 #[.int .i64 a0, .int .i64 a1] w fun e w' => e = .returned (.int .i64 r) ∧ Drawn0 w w' := by
  have H : (if a1 = 0 then (none) else (if (Int.tmod (wrap64 ((Int.tmod a0 a1) + a1)) a1) ≥ (wrap64 (Int.tdiv a1 2)) then (some (wrap64 ((Int.tmod (wrap64 ((Int.tmod a0 a1) + a1)) a1) - a1))) else (some (Int.tmod (wrap64 ((Int.tmod a0 a1) + a1)) a1)))) = some r := h
  clear h
  by_cases c3 : a1 = 0
  · rw [if_pos c3] at H
    exact absurd H (by simp)
  · rw [if_neg c3] at H
    have c3b0 : (a1 == 0) = false := beq_eq_false_iff_ne.mpr c3
    have c3b1 : (a1 != 0) = true := bne_iff_ne.mpr c3
    by_cases c4 : (Int.tmod (wrap64 ((Int.tmod a0 a1) + a1)) a1) ≥ (wrap64 (Int.tdiv a1 2))
    · rw [if_pos c4] at H
      have c4b0 : decide ((wrap64 (Int.tdiv a1 2)) ≤ (Int.tmod (wrap64 ((Int.tmod a0 a1) + a1)) a1)) = true := decide_eq_true c4
      clear c4
      obtain rfl := Option.some.inj H
      go_enter Try.func26, Try.ntmps26
      go_wp2
      go_ret
      exact ⟨by first | rfl | (simp; done) | (simp [*]; done), by repeat (first | exact Drawn0.refl _ | apply Drawn0.step)⟩
    · rw [if_neg c4] at H
      have c4b0 : decide ((wrap64 (Int.tdiv a1 2)) ≤ (Int.tmod (wrap64 ((Int.tmod a0 a1) + a1)) a1)) = false := decide_eq_false c4
      clear c4
      obtain rfl := Option.some.inj H
      go_enter Try.func26, Try.ntmps26
      go_wp2
      go_ret
      exact ⟨by first | rfl | (simp; done) | (simp [*]; done), by repeat (first | exact Drawn0.refl _ | apply Drawn0.step)⟩

end Go.Proofs.Ytcinmodpfdehpaa.J
