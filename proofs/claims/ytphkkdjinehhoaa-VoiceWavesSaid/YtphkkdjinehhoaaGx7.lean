/- Laid by a program of this repo over the translation: each Go function as a plain Lean function with the proof that the call comes to its answers, or a statement's row out of these; conditions: the hypotheses of each theorem. -/
import Derived.Test.YtphkkdjinehhoaaGx0
import Derived.Test.YtphkkdjinehhoaaGx1
import Derived.Test.YtphkkdjinehhoaaGx2
import Derived.Test.YtphkkdjinehhoaaGx4
import Derived.Test.YtphkkdjinehhoaaGx6
namespace Go.Proofs.Ytphkkdjinehhoaa.G
open Go.RowKit Go.Proofs.YtphkkdjinehhoaaW.PrintWords Go.Proofs.YtphkkdjinehhoaaW.PrintLast Go.Proofs.YtphkkdjinehhoaaW.PrintMore
attribute [local go_sem] max2_int min2_int max_two min_two max_three min_three max_four min_four   -- for this text's walks alone
set_option linter.unusedVariables false
set_option linter.unusedSimpArgs false

/-! ### wireglassref25_Wave: function 26 -/
-- EXT rounds=0 making=1
theorem low_from (v : Int) (n : Nat) (hn : n ≤ 8) : ∀ (m i : Nat) (xs : List Int), i + m = n → xs.length = i → wireglassref25_low.l0 (m + 1) v (n : Int) xs (i : Int) = some (xs ++ wLe m (v / 256 ^ i))
  | 0, i, xs, h, hl => by
    rw [wireglassref25_low.l0, if_neg (by omega), wLe, List.append_nil]
  | m + 1, i, xs, h, hl => by
    have e : wrap64 (8 * (i : Int)) = ((8 * i : Nat) : Int) := by rw [Hand.w64 (by omega) (by omega)]; omega
    rw [wireglassref25_low.l0, if_pos (by omega), e, if_pos (by omega), if_pos (by omega), Hand.shr_eq (by have : IntKind.i64.bits = 64 := rfl; omega), pow_256,
      show wrap64 ((i : Int) + 1) = ((i + 1 : Nat) : Int) by rw [Hand.w64 (by omega) (by omega)]; rfl, low_from v n hn m (i + 1) _ (by omega) (by rw [List.length_append, List.length_singleton]; omega), wLe, List.append_assoc]
    rw [Int.pow_succ, Int.ediv_ediv_of_nonneg (Int.pow_nonneg (by decide)), List.singleton_append]
theorem low_le (v : Int) (n : Nat) (hn : n ≤ 8) : wireglassref25_low.f (n + 1) v (n : Int) = some (wLe n v) := by
  unfold wireglassref25_low.f
  have := low_from v n hn n 0 [] (by omega) rfl
  rw [Int.pow_zero, Int.ediv_one] at this
  exact this
theorem low4.calls (v : Int) (W : World) : Calls Try.prog 43 #[.int .i64 v, .int .i64 4] W fun e w' => ∃ v0_ : Value, e = .returned v0_ ∧ Kd.R (Kd.int .u8) 5 w' W.heap.size (fun _ => True) v0_ (wLe 4 v) ∧ Below W.heap.size W w' :=
  wireglassref25_low.calls 5 v 4 _ W (low_le v 4 (by decide))
theorem low2.calls (v : Int) (W : World) : Calls Try.prog 43 #[.int .i64 v, .int .i64 2] W fun e w' => ∃ v0_ : Value, e = .returned v0_ ∧ Kd.R (Kd.int .u8) 5 w' W.heap.size (fun _ => True) v0_ (wLe 2 v) ∧ Below W.heap.size W w' :=
  wireglassref25_low.calls 3 v 2 _ W (low_le v 2 (by decide))
/-- An append of a row to a full slice that came in. -/
theorem grow_rows {b n m c : Nat} {xs ys : List Int} {w : World} {A : Option Addr} (hr : Kd.C (Kd.int .u8) w (some ⟨b, 0, none⟩) n xs) (hs : Kd.C (Kd.int .u8) w A m ys) (hn : n ≤ 1000) (hm : m ≤ 1000) (hm0 : 0 < m) :
    ∀ ty : TypeId, ∃ v' w', (Builtin.append_ #[37, 37] ty #[.slice (some ⟨b, 0, none⟩) n n, .slice A m c]).run Try.prog w = .ok v' w' ∧ (Kd.R (Kd.int .u8) 5 w' w.heap.size (fun _ => True) v' (xs ++ ys) ∧ Below w.heap.size w w') := by
  intro ty
  have hlen : xs.length = n := hr.1
  have hlen2 : ys.length = m := hs.1
  obtain ⟨a, rfl, _⟩ := hs.2.2 hm0
  obtain ⟨i0, hi, hz0, hz1, hz2⟩ := info_parts info5
  obtain ⟨v', w', hrun, hown, hg⟩ := run_append_arg_grows (P := Try.prog) (w := w) 37 ty 5 i0 (.int .u8 0) 1 1 Try.underlying37 hi hz0 hz1 hz2 rfl (by decide) ⟨b, 0, none⟩ n n (nums .u8 xs) (by rw [nums_length, hlen, Nat.mul_one])
    (fun j u hu => C_olds hr _ rfl j u hu) a m c (nums .u8 ys) (by rw [nums_length, hlen2, Nat.mul_one]) (fun j u hu => by
      have hj : j < ys.length := by have := (List.getElem?_eq_some_iff.1 hu).1; rwa [nums_length] at this
      obtain ⟨ad, e, hc⟩ := Kd.at_int hs (j : Int) (by omega) (by omega)
      cases e
      rw [Int.toNat_natCast] at hc
      rw [hc, ← hu]
      simp [nums, rd, hj]) (by omega) (by simp only [maxLen]; omega) (by omega)
  refine ⟨v', w', hrun, Kd.R_of_own (h1 := fun _ => rfl) (ok := fun _ => True) ?_ (fun _ _ => trivial), (Below.refl _ _).grown hg (Nat.le_refl _) (fun k h => by cases h)⟩
  have : (xs ++ ys).length = n + m := by rw [List.length_append, hlen, hlen2]
  rw [this]
  have h2 : encs (Value.int .u8) (xs ++ ys) = nums .u8 xs ++ nums .u8 ys := by simp [encs, nums]
  rw [h2]
  exact hown
theorem wireglassref25_isRate.is {a : Int} {r : Bool} (h : decide (1 ≤ a ∧ a ≤ 1000000) = r) : wireglassref25_isRate.f a = some r := by
  unfold wireglassref25_isRate.f
  rw [← h]
  by_cases c : a ≥ 1
  · rw [if_pos c]; congr 1; have c' : 1 ≤ a := c; simp [c']
  · rw [if_neg c]; congr 1; symm; rw [decide_eq_false_iff_not]; omega
def wireglassref25_Wave.f (l0 : List Int) (a1 : Int) : Option (List Int × Int) := voice_Wave.f l0 a1
set_option maxHeartbeats 8000000 in
set_option maxRecDepth 100000 in
theorem wireglassref25_Wave.does (A0 : Option Addr) (c0 : Nat) (l0 : List Int) (a1 : Int) (w : World) (hr0 : Kd.C (Kd.int .i64) w A0 l0.length l0) (hc0 : l0.length ≤ c0) (h : wOk l0 a1 = true) (hl : l0.length ≤ 80000) :
    Calls Try.prog 26 #[.slice A0 l0.length c0, .int .i64 a1] w fun e w' => ∃ v0_ : Value, e = .returned (.tuple #[v0_, .int .i64 0]) ∧ Kd.R (Kd.int .u8) 5 w' w.heap.size (fun _ => True) v0_ (wFull l0 a1) ∧ Below w.heap.size w w' := by
  have HR0 := Aside0.mk hr0
  have HC0 := Aside0.mk hc0
  clear hr0 hc0
  unfold wOk at h
  simp only [Bool.and_eq_true, decide_eq_true_eq] at h
  obtain ⟨ha, hr1, hr2⟩ := h
  have HA := Aside0.mk ha
  clear ha
  have d1 : decide (a1 < 1) = false := decide_eq_false (by omega)
  have d2 : decide (1000000 < a1) = false := decide_eq_false (by omega)
  have d3 : decide (80000 < (l0.length : Int)) = false := decide_eq_false (by omega)
  have d4 : decide (80000 < l0.length) = false := decide_eq_false (by omega)
  have q1 : IntKind.u64.wrap (36 + 2 * (l0.length : Int)) = 36 + 2 * (l0.length : Int) := by rw [IntKind.wrap_u64]; omega
  have q2 : IntKind.u64.wrap (2 * (l0.length : Int)) = 2 * (l0.length : Int) := by rw [IntKind.wrap_u64]; omega
  have q3 : IntKind.u64.wrap a1 = a1 := by rw [IntKind.wrap_u64]; omega
  have q4 : IntKind.u64.wrap (2 * a1) = 2 * a1 := by rw [IntKind.wrap_u64]; omega
  have HL := Aside0.mk hl
  have TK : Aside0 True := ⟨trivial⟩
  obtain ⟨RR, hRR⟩ : ∃ RR, wFull l0 a1 = RR := ⟨_, rfl⟩
  rw [hRR]
  have HRR := Aside0.mk hRR
  clear hRR
  have HT : Aside0 (decide (1 ≤ a1 ∧ a1 ≤ 1000000) = true) := ⟨decide_eq_true ⟨hr1, hr2⟩⟩
  have kc := fun (w : World) (C : Array Value) (n c : Nat) => Lib.run_convert_bytes_const (P := Try.prog) w 37 5 C n c Try.underlying37 Try.underlying5
  have kc1 : ∀ (m : Nat) (C : Array Value) (n c : Nat), (convert 37 37 (.slice (some ⟨w.heap.size, 0, none⟩) n c)).run Try.prog ((w.drewN m).alloc (.cells C 5)) = .ok (.slice (some ⟨w.heap.size, 0, none⟩) n c) ((w.drewN m).alloc (.cells C 5 (C.size, C.size + 1))) := fun m C n c => Lib.run_convert_bytes_const (P := Try.prog) (w.drewN m) 37 5 C n c Try.underlying37 Try.underlying5
  go_enter Try.func26, Try.ntmps26
  go_wp2_with (first
    | (go_at_call 37; (with_reducible refine (wireglassref25_samples.calls (l0.length + 1) A0 c0 l0 _ _ HR0.out HC0.out (wireglassref25_samples.vin (Kd.C_max HR0.out) HA.out)).mono ?_); rintro e w' ⟨rfl, ⟨nd, rfl⟩⟩)
    | (go_at_call 42; (with_reducible refine (wireglassref25_isRate.calls a1 _ _ (wireglassref25_isRate.is HT.out)).mono ?_); rintro e w' ⟨rfl, ⟨nd2, rfl⟩⟩)
    | (go_at_call 43; (with_reducible refine (low4.calls _ _).mono ?_); rintro e w5 ⟨v5, rfl, ho, hb⟩; obtain ⟨A5, c5, rfl, hq5, hr5⟩ := Kd.R_reads ho; have HN := Aside0.mk hr5; (first | (have tk := TK; have HF := Aside0.mk (Kd.C_below (lit_full (w.drewN (nd + nd2)) [82, 73, 70, 70] (4, 5) (by decide)) hb); have HB := Aside0.mk ((below_alloc (pw_below_drewN (Below.refl w.heap.size w) (nd + nd2)) _).trans (hb.mono (by simp)))) | (have n1_ := Aside0.mk (Kd.R_below HO.out hb); have n2_ := Aside0.mk (HB.out.trans (hb.mono HB.out.size)); clear HO HB; have HO := n1_; have HB := n2_; clear n1_ n2_)); clear ho hb hq5 hr5)
    | (go_at_call 43; (with_reducible refine (low2.calls _ _).mono ?_); rintro e w5 ⟨v5, rfl, ho, hb⟩; obtain ⟨A5, c5, rfl, hq5, hr5⟩ := Kd.R_reads ho; have HN := Aside0.mk hr5; (first | (have tk := TK; have HF := Aside0.mk (Kd.C_below (lit_full (w.drewN (nd + nd2)) [82, 73, 70, 70] (4, 5) (by decide)) hb); have HB := Aside0.mk ((below_alloc (pw_below_drewN (Below.refl w.heap.size w) (nd + nd2)) _).trans (hb.mono (by simp)))) | (have n1_ := Aside0.mk (Kd.R_below HO.out hb); have n2_ := Aside0.mk (HB.out.trans (hb.mono HB.out.size)); clear HO HB; have HO := n1_; have HB := n2_; clear n1_ n2_)); clear ho hb hq5 hr5)
    | (at_builtin; have tk := TK; refine step_grow rfl _ _ 37 rfl rfl rfl (grow_rows HF.out HN.out (by decide) (by simp [wLe_length]) (by simp [wLe_length])) ?_; rintro v6 w6 ⟨ho, hb⟩; have HO := Aside0.mk (Kd.R_lower (base' := w.heap.size) ho HB.out.size); have n1_ := Aside0.mk (HB.out.trans (hb.mono HB.out.size)); clear HB TK tk HF HN ho hb; have HB := n1_; clear n1_)
    | (at_builtin; refine Kd.R_append_rows (Kd.int .u8) (w0 := w) w.heap.size rfl _ _ 37 5 (.int .u8 0) 1 rfl Try.underlying37 info5 rfl (by decide) (by omega) v6 _ _ _ _ _ (fun _ => True) (fun _ => False) rfl rfl HO.out HN.out (fun _ _ h => h) (fun _ h => h.elim) (fun _ _ => trivial) HB.out ?aS ?aL ?_; (case aS => exact HB.out.size); (case aL => simp [wLe_length]); intro v6 w6 ho hb _ _; clear HO HB HN; have HO := Aside0.mk ho; have HB := Aside0.mk hb; clear ho hb)
    | (at_builtin; refine Kd.R_append_rows (Kd.int .u8) (w0 := w) w.heap.size rfl _ _ 37 5 (.int .u8 0) 1 rfl Try.underlying37 info5 rfl (by decide) (by omega) v6 _ [87, 65, 86, 69, 102, 109, 116, 32] _ _ _ (fun _ => True) (fun _ => False) rfl rfl (Kd.R_alloc HO.out _) (lit_full _ [87, 65, 86, 69, 102, 109, 116, 32] _ (by decide)) (fun _ _ h => h) (fun _ h => h.elim) (fun _ _ => trivial) (below_alloc HB.out _) ?aS ?aL ?_; (case aS => have := HB.out.size; simp; omega); (case aL => simp [wLe_length]); intro v6 w6 ho hb _ _; clear HO HB; have HO := Aside0.mk ho; have HB := Aside0.mk hb; clear ho hb)
    | (at_builtin; refine Kd.R_append_rows (Kd.int .u8) (w0 := w) w.heap.size rfl _ _ 37 5 (.int .u8 0) 1 rfl Try.underlying37 info5 rfl (by decide) (by omega) v6 _ [100, 97, 116, 97] _ _ _ (fun _ => True) (fun _ => False) rfl rfl (Kd.R_alloc HO.out _) (lit_full _ [100, 97, 116, 97] _ (by decide)) (fun _ _ h => h) (fun _ h => h.elim) (fun _ _ => trivial) (below_alloc HB.out _) ?aS ?aL ?_; (case aS => have := HB.out.size; simp; omega); (case aL => simp [wLe_length]); intro v6 w6 ho hb _ _; clear HO HB; have HO := Aside0.mk ho; have HB := Aside0.mk hb; clear ho hb))
  clear q1 q2 q3 q4 d1 d2 d3 d4 kc kc1
  go_loopg [6, 7] l0.length (fun kq v6 v7 W => ∃ (i : Int) (xs : List Int), v7 = .int .i64 i ∧ 0 ≤ i ∧ i + kq = l0.length ∧ Aside0 (xs.length = 44 + 2 * i.toNat) ∧ Aside0 (xs ++ wData (l0.drop i.toNat) = RR) ∧ Aside0 (Kd.R (Kd.int .u8) 5 W w.heap.size (fun _ => True) v6 xs) ∧ Aside0 (Below w.heap.size w W))
  case atStart => exact ⟨0, _, rfl, by omega, by omega, ⟨by rw [wHead_length]; rfl⟩, ⟨HRR.out⟩, HO, HB⟩
  case round =>
    clear HO HB HRR
    obtain ⟨i, xs, rfl, hi0, hik, HLN, HX, HO, HB⟩ := hrel
    by_cases ci : i < (l0.length : Int)
    · obtain ⟨q, rfl⟩ : ∃ q, gk = q + 1 := ⟨gk - 1, by omega⟩
      have cib : decide (i < (l0.length : Int)) = true := decide_eq_true ci
      obtain ⟨ad, e, hx⟩ := Kd.at_int HR0.out i hi0 ci
      cases e
      replace hx := pw_cell_below HB.out hx
      have hd : l0.drop i.toNat = rd l0 i :: l0.drop (i + 1).toNat := by
        rw [show (i + 1).toNat = i.toNat + 1 by omega, List.drop_eq_getElem_cons (by omega : i.toNat < l0.length)]
        congr 1
        unfold rd
        rw [List.getD_eq_getElem?_getD, List.getElem?_eq_getElem (by omega : i.toNat < l0.length)]; rfl
      have HX1 := HX.out
      rw [hd, wData_cons, ← List.append_assoc] at HX1
      have HX := Aside0.mk HX1
      have HC : Aside0 (xs.length ≤ 1000000) := ⟨by have := HLN.out; have := HL.out; omega⟩
      have hxl : (xs ++ wLe 2 (rd l0 i)).length = 44 + 2 * (i + 1).toNat := by rw [List.length_append, wLe_length]; have := HLN.out; omega
      have HXL := Aside0.mk hxl
      clear hd HX1 hxl
      go_wp2_with (first
        | (go_at_call 43; (with_reducible refine (low2.calls _ _).mono ?_); rintro e w5 ⟨v5, rfl, ho, hb⟩; obtain ⟨A5, c5, rfl, hq5, hr5⟩ := Kd.R_reads ho; have HN := Aside0.mk hr5; have n1_ := Aside0.mk (Kd.R_below HO.out hb); have n2_ := Aside0.mk (HB.out.trans (hb.mono HB.out.size)); clear HO HB; have HO := n1_; have HB := n2_; clear n1_ n2_; clear ho hb hq5 hr5)
        | (at_builtin; refine Kd.R_append_rows (Kd.int .u8) (w0 := w) w.heap.size rfl _ _ 37 5 (.int .u8 0) 1 rfl Try.underlying37 info5 rfl (by decide) (by omega) u6 _ _ _ _ _ (fun _ => True) (fun _ => False) rfl rfl HO.out HN.out (fun _ _ h => h) (fun _ h => h.elim) (fun _ _ => trivial) HB.out ?aS ?aL ?_; (case aS => exact HB.out.size); (case aL => have := HC.out; rw [wLe_length]; omega); intro v6 w6 ho hb _ _; clear HO HB HN; have HO := Aside0.mk ho; have HB := Aside0.mk hb; clear ho hb))
      go_roundg q
      case measure => omega
      case rel => exact ⟨i + 1, _, by go_num, by omega, by omega, HXL, HX, HO, HB⟩
    · have cib : decide (i < (l0.length : Int)) = false := decide_eq_false ci
      have HX1 := HX.out
      rw [List.drop_eq_nil_of_le (by omega), wData, List.append_nil] at HX1
      have HX := Aside0.mk HX1
      clear HX1
      go_wp2
      go_ret2
      exact ⟨_, rfl, by rw [← HX.out]; exact HO.out, HB.out⟩
set_option maxHeartbeats 8000000 in
set_option maxRecDepth 100000 in
theorem wireglassref25_Wave.fails (A0 : Option Addr) (c0 : Nat) (l0 : List Int) (a1 : Int) (r2 : Int) (w : World) (hr0 : Kd.C (Kd.int .i64) w A0 l0.length l0) (hc0 : l0.length ≤ c0) (h : wOk l0 a1 = false ∧ r2 = 1 ∨ wOk l0 a1 = true ∧ 80000 < l0.length ∧ r2 = 3) :
    Calls Try.prog 26 #[.slice A0 l0.length c0, .int .i64 a1] w fun e w' => ∃ v0_ : Value, e = .returned (.tuple #[v0_, .int .i64 r2]) ∧ Kd.R (Kd.int .u8) 5 w' w.heap.size (fun _ => True) v0_ [] ∧ Below w.heap.size w w' := by
  have hm := Kd.C_max hr0
  have HR0 := Aside0.mk hr0
  have HC0 := Aside0.mk hc0
  clear hr0 hc0
  rcases h with ⟨h, rfl⟩ | ⟨h, hl, rfl⟩
  · unfold wOk at h
    cases ha : l0.all vIn with
    | false =>
      have HA := Aside0.mk ha
      have HT : Aside0 (decide (1 ≤ a1 ∧ a1 ≤ 1000000) = decide (1 ≤ a1 ∧ a1 ≤ 1000000)) := ⟨rfl⟩
      clear h ha
      go_enter Try.func26, Try.ntmps26
      go_wp2_with (first
        | (go_at_call 37; (with_reducible refine (wireglassref25_samples.calls (l0.length + 1) A0 c0 l0 _ _ HR0.out HC0.out (wireglassref25_samples.vin (Kd.C_max HR0.out) HA.out)).mono ?_); rintro e w' ⟨rfl, ⟨nd, rfl⟩⟩)
        | (go_at_call 42; (with_reducible refine (wireglassref25_isRate.calls a1 _ _ (wireglassref25_isRate.is HT.out)).mono ?_); rintro e w' ⟨rfl, ⟨nd2, rfl⟩⟩))
      go_ret2
      exact ⟨.slice none 0 0, rfl, Kd.R_nil _ _ _ _ _, by repeat (first | exact Below.refl _ _ | apply pw_below_drewN | apply below_drew1)⟩
    | true =>
      have HA := Aside0.mk ha
      rw [ha] at h
      simp only [Bool.true_and, decide_eq_false_iff_not] at h
      clear ha
      by_cases c1 : a1 < 1
      · have d1 : decide (a1 < 1) = true := decide_eq_true c1
        have HT : Aside0 (decide (1 ≤ a1 ∧ a1 ≤ 1000000) = false) := ⟨decide_eq_false (by omega)⟩
        clear h c1
        go_enter Try.func26, Try.ntmps26
        go_wp2_with (first
          | (go_at_call 37; (with_reducible refine (wireglassref25_samples.calls (l0.length + 1) A0 c0 l0 _ _ HR0.out HC0.out (wireglassref25_samples.vin (Kd.C_max HR0.out) HA.out)).mono ?_); rintro e w' ⟨rfl, ⟨nd, rfl⟩⟩)
          | (go_at_call 42; (with_reducible refine (wireglassref25_isRate.calls a1 _ _ (wireglassref25_isRate.is HT.out)).mono ?_); rintro e w' ⟨rfl, ⟨nd2, rfl⟩⟩))
        go_ret2
        exact ⟨.slice none 0 0, rfl, Kd.R_nil _ _ _ _ _, by repeat (first | exact Below.refl _ _ | apply pw_below_drewN | apply below_drew1)⟩
      · have d1 : decide (a1 < 1) = false := decide_eq_false c1
        have d2 : decide (1000000 < a1) = true := decide_eq_true (by omega)
        have HT : Aside0 (decide (1 ≤ a1 ∧ a1 ≤ 1000000) = false) := ⟨decide_eq_false (by omega)⟩
        clear h c1
        go_enter Try.func26, Try.ntmps26
        go_wp2_with (first
          | (go_at_call 37; (with_reducible refine (wireglassref25_samples.calls (l0.length + 1) A0 c0 l0 _ _ HR0.out HC0.out (wireglassref25_samples.vin (Kd.C_max HR0.out) HA.out)).mono ?_); rintro e w' ⟨rfl, ⟨nd, rfl⟩⟩)
          | (go_at_call 42; (with_reducible refine (wireglassref25_isRate.calls a1 _ _ (wireglassref25_isRate.is HT.out)).mono ?_); rintro e w' ⟨rfl, ⟨nd2, rfl⟩⟩))
        go_ret2
        exact ⟨.slice none 0 0, rfl, Kd.R_nil _ _ _ _ _, by repeat (first | exact Below.refl _ _ | apply pw_below_drewN | apply below_drew1)⟩
  · unfold wOk at h
    simp only [Bool.and_eq_true, decide_eq_true_eq] at h
    obtain ⟨ha, hr1, hr2⟩ := h
    have HA := Aside0.mk ha
    clear ha
    have d1 : decide (a1 < 1) = false := decide_eq_false (by omega)
    have d2 : decide (1000000 < a1) = false := decide_eq_false (by omega)
    have d3 : decide (80000 < (l0.length : Int)) = true := decide_eq_true (by omega)
    have d4 : decide (80000 < l0.length) = true := decide_eq_true hl
    have HT : Aside0 (decide (1 ≤ a1 ∧ a1 ≤ 1000000) = true) := ⟨decide_eq_true ⟨hr1, hr2⟩⟩
    clear hr1 hr2 hl
    go_enter Try.func26, Try.ntmps26
    go_wp2_with (first
      | (go_at_call 37; (with_reducible refine (wireglassref25_samples.calls (l0.length + 1) A0 c0 l0 _ _ HR0.out HC0.out (wireglassref25_samples.vin (Kd.C_max HR0.out) HA.out)).mono ?_); rintro e w' ⟨rfl, ⟨nd, rfl⟩⟩)
      | (go_at_call 42; (with_reducible refine (wireglassref25_isRate.calls a1 _ _ (wireglassref25_isRate.is HT.out)).mono ?_); rintro e w' ⟨rfl, ⟨nd2, rfl⟩⟩))
    go_ret2
    exact ⟨.slice none 0 0, rfl, Kd.R_nil _ _ _ _ _, by repeat (first | exact Below.refl _ _ | apply pw_below_drewN | apply below_drew1)⟩
theorem wireglassref25_Wave.calls (A0 : Option Addr) (c0 : Nat) (l0 : List Int) (a1 : Int) (r1 : List Int) (r2 : Int) (w : World) (hr0 : Kd.C (Kd.int .i64) w A0 l0.length l0) (hc0 : l0.length ≤ c0) (h : wireglassref25_Wave.f l0 a1 = some (r1, r2)) :
    Calls Try.prog 26 #[.slice A0 l0.length c0, .int .i64 a1] w fun e w' => ∃ v0_ : Value, e = .returned (.tuple #[v0_, .int .i64 r2]) ∧ Kd.R (Kd.int .u8) 5 w' w.heap.size (fun _ => True) v0_ r1 ∧ Below w.heap.size w w' := by
  unfold wireglassref25_Wave.f voice_Wave.f at h
  cases hv : wOk l0 a1 with
  | false =>
    rw [if_neg (by rw [hv]; decide)] at h
    simp only [Option.some.injEq, Prod.mk.injEq] at h
    obtain ⟨rfl, rfl⟩ := h
    exact wireglassref25_Wave.fails A0 c0 l0 a1 1 w hr0 hc0 (.inl ⟨hv, rfl⟩)
  | true =>
    rw [if_pos hv] at h
    by_cases hl : l0.length ≤ 80000
    · rw [if_pos hl] at h
      simp only [Option.some.injEq, Prod.mk.injEq] at h
      obtain ⟨rfl, rfl⟩ := h
      exact wireglassref25_Wave.does A0 c0 l0 a1 w hr0 hc0 hv hl
    · rw [if_neg hl] at h
      simp only [Option.some.injEq, Prod.mk.injEq] at h
      obtain ⟨rfl, rfl⟩ := h
      exact wireglassref25_Wave.fails A0 c0 l0 a1 3 w hr0 hc0 (.inr ⟨hv, by omega, rfl⟩)

/-! ### wireglassref25_Unwave: function 24 -/
def wireglassref25_Unwave.l0 : Nat → List Int → Int → List Int → Int → Option (List Int × Int × Int)
  | 0, _, _, _, _ => none
  | k + 1, x0, x5, x6, x7 => if (wrap64 (x7 + 1)) < (x0.length : Int) then (if 0 ≤ x7 then (if x7 < (x0.length : Int) then (if 0 ≤ (wrap64 (x7 + 1)) then (if (wrap64 ((wrap64 (rd x0 x7)) + (wrap64 (256 * (wrap64 (rd x0 (wrap64 (x7 + 1)))))))) > 32767 then (if x6.length < 17592186044416 then (wireglassref25_Unwave.l0 k x0 x5 (x6 ++ [wrap64 ((wrap64 ((wrap64 (rd x0 x7)) + (wrap64 (256 * (wrap64 (rd x0 (wrap64 (x7 + 1)))))))) - 65536)]) (wrap64 (x7 + 2))) else (none)) else (if x6.length < 17592186044416 then (wireglassref25_Unwave.l0 k x0 x5 (x6 ++ [wrap64 ((wrap64 (rd x0 x7)) + (wrap64 (256 * (wrap64 (rd x0 (wrap64 (x7 + 1)))))))]) (wrap64 (x7 + 2))) else (none))) else (none)) else (none)) else (none)) else ((wireglassref25_Wave.f x6 x5).bind fun bt228 => (if bt228.2 = 0 then (if (strOfNums bt228.1).toList = (strOfNums x0).toList then (some (x6, x5, 0)) else (some (([] : List Int), 0, 11))) else (some (([] : List Int), 0, 11))))
def wireglassref25_Unwave.f (k : Nat) (l0 : List Int) : Option (List Int × Int × Int) := if (l0.length : Int) > 160044 then (some (([] : List Int), 0, 3)) else (if (l0.length : Int) < 44 then (some (([] : List Int), 0, 11)) else (if 24 < (l0.length : Int) then (if 25 < (l0.length : Int) then (if 26 < (l0.length : Int) then (if 27 < (l0.length : Int) then (wireglassref25_Unwave.l0 k l0 (wrap64 ((wrap64 ((wrap64 ((wrap64 (rd l0 24)) + (wrap64 (256 * (wrap64 (rd l0 25)))))) + (wrap64 (65536 * (wrap64 (rd l0 26)))))) + (wrap64 (16777216 * (wrap64 (rd l0 27)))))) ([] : List Int) 44) else (none)) else (none)) else (none)) else (none)))
theorem wireglassref25_Unwave.mono_l : ∀ k, (∀ y0 y1 y2 y3, LeO (wireglassref25_Unwave.l0 k y0 y1 y2 y3) (wireglassref25_Unwave.l0 (k + 1) y0 y1 y2 y3))
  | 0 => fun _ _ _ _ r h => by simp [wireglassref25_Unwave.l0] at h
  | k + 1 => by
    have ih0 := wireglassref25_Unwave.mono_l k
    · intro y0 y1 y2 y3
      unfold wireglassref25_Unwave.l0
      repeat' first
      | (with_reducible exact ih0 _ _ _ _)
      | (with_reducible exact LeO.refl _)
      | (with_reducible exact LeO.none _)
      | (with_reducible refine LeO.ite ?_ ?_)
      | (with_reducible refine LeO.bind ?_ (fun _ => ?_))
      | exact ih0 _ _ _ _
      | exact LeO.none _
      | refine LeO.ite ?_ ?_
      | refine LeO.bind ?_ (fun _ => ?_)
theorem wireglassref25_Unwave.mono : ∀ a0 k, LeO (wireglassref25_Unwave.f k a0) (wireglassref25_Unwave.f (k + 1) a0) := by
  intro a0 k
  have ih0 := wireglassref25_Unwave.mono_l k
  unfold wireglassref25_Unwave.f
  repeat' first
      | (with_reducible exact ih0 _ _ _ _)
      | (with_reducible exact LeO.refl _)
      | (with_reducible exact LeO.none _)
      | (with_reducible refine LeO.ite ?_ ?_)
      | (with_reducible refine LeO.bind ?_ (fun _ => ?_))
      | exact ih0 _ _ _ _
      | exact LeO.none _
      | refine LeO.ite ?_ ?_
      | refine LeO.bind ?_ (fun _ => ?_)
set_option maxHeartbeats 8000000 in
set_option maxRecDepth 100000 in
theorem wireglassref25_Unwave.calls (k : Nat) (A0 : Option Addr) (c0 : Nat) (l0 : List Int) (r1 : List Int) (r2 : Int) (r3 : Int) (w : World) (hr0 : Kd.C (Kd.int .u8) w A0 l0.length l0) (hc0 : l0.length ≤ c0) (h : wireglassref25_Unwave.f k l0 = some (r1, r2, r3)) :
    Calls Try.prog 24 #[.slice A0 l0.length c0] w fun e w' => ∃ v0_ : Value, e = .returned (.tuple #[v0_, .int .i64 r2, .int .i64 r3]) ∧ Kd.R (Kd.int .i64) 3 w' w.heap.size (fun _ => True) v0_ r1 ∧ Below w.heap.size w w' := by
  have HR0 := Aside0.mk hr0
  have HC0 := Aside0.mk hc0
  clear hr0 hc0
  have HB := Aside0.mk (Below.refl w.heap.size w)
  have H : (if (l0.length : Int) > 160044 then (some (([] : List Int), 0, 3)) else (if (l0.length : Int) < 44 then (some (([] : List Int), 0, 11)) else (if 24 < (l0.length : Int) then (if 25 < (l0.length : Int) then (if 26 < (l0.length : Int) then (if 27 < (l0.length : Int) then (wireglassref25_Unwave.l0 k l0 (wrap64 ((wrap64 ((wrap64 ((wrap64 (rd l0 24)) + (wrap64 (256 * (wrap64 (rd l0 25)))))) + (wrap64 (65536 * (wrap64 (rd l0 26)))))) + (wrap64 (16777216 * (wrap64 (rd l0 27)))))) ([] : List Int) 44) else (none)) else (none)) else (none)) else (none)))) = some (r1, r2, r3) := h
  clear h
  by_cases c2 : (l0.length : Int) > 160044
  · rw [if_pos c2] at H
    have c2b0 : decide (160044 < (l0.length : Int)) = true := decide_eq_true c2
    have c2b1 : decide (160044 < l0.length) = true := decide_eq_true (by omega)
    clear c2
    simp only [Option.some.injEq, Prod.mk.injEq] at H
    obtain ⟨rfl, rfl, rfl⟩ := H
    go_enter Try.func24, Try.ntmps24
    go_wp2
    repeat (go_quiet (fail); try go_wp2)
    go_ret3
    exact ⟨_, by first | rfl | (simp [errW_none, errW_some] <;> rfl) | (simp [*, errW_none, errW_some] <;> rfl), by first | exact Kd.R_nil _ _ _ _ _ | exact Kd.N_nil _ _ _ _ _ | exact Kd.V_nil _ _ _ _ _ | exact Kd.Q_nil _ _ _ _ _ | exact Kd.S_nil _ _ _ _ _, by repeat (first | (with_reducible first | exact HB.out | apply below_alloc | apply pw_below_drewN | apply below_drew1) | exact HB.out)⟩
  · rw [if_neg c2] at H
    have c2b0 : decide (160044 < (l0.length : Int)) = false := decide_eq_false c2
    have c2b1 : decide (160044 < l0.length) = false := decide_eq_false (by omega)
    clear c2
    by_cases c3 : (l0.length : Int) < 44
    · rw [if_pos c3] at H
      have c3b0 : decide ((l0.length : Int) < 44) = true := decide_eq_true c3
      have c3b1 : decide (l0.length < 44) = true := decide_eq_true (by omega)
      clear c3
      simp only [Option.some.injEq, Prod.mk.injEq] at H
      obtain ⟨rfl, rfl, rfl⟩ := H
      go_enter Try.func24, Try.ntmps24
      go_wp2
      repeat (go_quiet (fail); try go_wp2)
      go_ret3
      exact ⟨_, by first | rfl | (simp [errW_none, errW_some] <;> rfl) | (simp [*, errW_none, errW_some] <;> rfl), by first | exact Kd.R_nil _ _ _ _ _ | exact Kd.N_nil _ _ _ _ _ | exact Kd.V_nil _ _ _ _ _ | exact Kd.Q_nil _ _ _ _ _ | exact Kd.S_nil _ _ _ _ _, by repeat (first | (with_reducible first | exact HB.out | apply below_alloc | apply pw_below_drewN | apply below_drew1) | exact HB.out)⟩
    · rw [if_neg c3] at H
      have c3b0 : decide ((l0.length : Int) < 44) = false := decide_eq_false c3
      have c3b1 : decide (l0.length < 44) = false := decide_eq_false (by omega)
      clear c3
      by_cases c4 : 24 < (l0.length : Int)
      · rw [if_pos c4] at H
        have c4b0 : decide (24 < (l0.length : Int)) = true := decide_eq_true c4
        have c4b1 : decide (24 < l0.length) = true := decide_eq_true (by omega)
        clear c4
        by_cases c5 : 25 < (l0.length : Int)
        · rw [if_pos c5] at H
          have c5b0 : decide (25 < (l0.length : Int)) = true := decide_eq_true c5
          have c5b1 : decide (25 < l0.length) = true := decide_eq_true (by omega)
          clear c5
          by_cases c6 : 26 < (l0.length : Int)
          · rw [if_pos c6] at H
            have c6b0 : decide (26 < (l0.length : Int)) = true := decide_eq_true c6
            have c6b1 : decide (26 < l0.length) = true := decide_eq_true (by omega)
            clear c6
            by_cases c7 : 27 < (l0.length : Int)
            · rw [if_pos c7] at H
              have c7b0 : decide (27 < (l0.length : Int)) = true := decide_eq_true c7
              have c7b1 : decide (27 < l0.length) = true := decide_eq_true (by omega)
              clear c7
              have H' := Aside0.mk H
              clear H
              have p216 : 0 ≤ (24 : Int) := (by omega)
              have q216 : 24 < (l0.length : Int) := of_decide_eq_true (by first | (with_reducible assumption) | assumption)
              obtain ⟨ad216, e216, hx216_0⟩ := Kd.at_int HR0.out 24 p216 q216
              cases e216
              (try simp only [show (24 : Int).toNat = 24 from rfl, Nat.reduceMul, Nat.reduceEqDiff, Go.Addr.add, ↓reduceIte] at hx216_0)
              have qi216 : (24 < l0.length) = True := eq_true (by omega)
              (try rw [show ((24 : Int)).toNat = 24 from rfl] at hx216_0)
              replace p216 := eq_true p216
              replace q216 := eq_true q216
              have p217 : 0 ≤ (25 : Int) := (by omega)
              have q217 : 25 < (l0.length : Int) := of_decide_eq_true (by first | (with_reducible assumption) | assumption)
              obtain ⟨ad217, e217, hx217_0⟩ := Kd.at_int HR0.out 25 p217 q217
              obtain rfl : ad216 = ad217 := (by injection e217)
              (try simp only [show (25 : Int).toNat = 25 from rfl, Nat.reduceMul, Nat.reduceEqDiff, Go.Addr.add, ↓reduceIte] at hx217_0)
              have qi217 : (25 < l0.length) = True := eq_true (by omega)
              (try rw [show ((25 : Int)).toNat = 25 from rfl] at hx217_0)
              replace p217 := eq_true p217
              replace q217 := eq_true q217
              have p218 : 0 ≤ (26 : Int) := (by omega)
              have q218 : 26 < (l0.length : Int) := of_decide_eq_true (by first | (with_reducible assumption) | assumption)
              obtain ⟨ad218, e218, hx218_0⟩ := Kd.at_int HR0.out 26 p218 q218
              obtain rfl : ad216 = ad218 := (by injection e218)
              (try simp only [show (26 : Int).toNat = 26 from rfl, Nat.reduceMul, Nat.reduceEqDiff, Go.Addr.add, ↓reduceIte] at hx218_0)
              have qi218 : (26 < l0.length) = True := eq_true (by omega)
              (try rw [show ((26 : Int)).toNat = 26 from rfl] at hx218_0)
              replace p218 := eq_true p218
              replace q218 := eq_true q218
              have p219 : 0 ≤ (27 : Int) := (by omega)
              have q219 : 27 < (l0.length : Int) := of_decide_eq_true (by first | (with_reducible assumption) | assumption)
              obtain ⟨ad219, e219, hx219_0⟩ := Kd.at_int HR0.out 27 p219 q219
              obtain rfl : ad216 = ad219 := (by injection e219)
              (try simp only [show (27 : Int).toNat = 27 from rfl, Nat.reduceMul, Nat.reduceEqDiff, Go.Addr.add, ↓reduceIte] at hx219_0)
              have qi219 : (27 < l0.length) = True := eq_true (by omega)
              (try rw [show ((27 : Int)).toNat = 27 from rfl] at hx219_0)
              replace p219 := eq_true p219
              replace q219 := eq_true q219
              go_enter Try.func24, Try.ntmps24
              go_wp2
              repeat (go_quiet (fail); try go_wp2)
              go_loopg [6, 7] k (fun kq v6 v7 w' => ∃ (x6_1 : List Int) (x7_1 : Int), v7 = .int .i64 x7_1 ∧ Aside0 (wireglassref25_Unwave.l0 kq l0 (wrap64 ((wrap64 ((wrap64 ((wrap64 (rd l0 24)) + (wrap64 (256 * (wrap64 (rd l0 25)))))) + (wrap64 (65536 * (wrap64 (rd l0 26)))))) + (wrap64 (16777216 * (wrap64 (rd l0 27)))))) x6_1 x7_1 = some (r1, r2, r3)) ∧ Aside0 (kq ≤ k) ∧ Aside0 (Kd.R (Kd.int .i64) 3 w' w.heap.size (fun _ => True) v6 x6_1) ∧ Aside0 (Below w.heap.size w w'))
              case atStart => exact ⟨(([] : List Int)), (44), (by first | rfl | (simp; done) | (simp [*]; done)), H', ⟨Nat.le_refl _⟩, ⟨by first | exact Kd.R_nil _ _ _ _ _ | exact Kd.N_nil _ _ _ _ _ | exact Kd.V_nil _ _ _ _ _ | exact Kd.Q_nil _ _ _ _ _ | exact Kd.S_nil _ _ _ _ _⟩, ⟨by repeat (first | (with_reducible first | exact HB.out | apply below_alloc | apply pw_below_drewN | apply below_drew1) | exact HB.out)⟩⟩
              case round =>
                clear H'
                try clear c2
                try clear c2b0
                try clear c2b1
                try clear p2
                try clear q2
                try clear hx2
                try clear qi2
                try clear c3
                try clear c3b0
                try clear c3b1
                try clear c4
                try clear c4b0
                try clear c4b1
                try clear c5
                try clear c5b0
                try clear c5b1
                try clear c6
                try clear c6b0
                try clear c6b1
                try clear p6
                try clear c7
                try clear c7b0
                try clear c7b1
                try clear hx216_0
                try clear hx217_0
                try clear hx218_0
                try clear hx219_0
                try clear p216
                try clear p217
                try clear p218
                try clear p219
                try clear q216
                try clear q217
                try clear q218
                try clear q219
                obtain ⟨x6_1, x7_1, rfl, HA, HK1, HO_6, HB⟩ := hrel
                cases gk with
                | zero => exact absurd HA.out (by simp [wireglassref25_Unwave.l0])
                | succ k1 =>
                  have H := HA.out
                  clear HA
                  simp only [wireglassref25_Unwave.l0] at H
                  by_cases c8 : (wrap64 (x7_1 + 1)) < (l0.length : Int)
                  · rw [if_pos c8] at H
                    have c8b0 : decide ((wrap64 (x7_1 + 1)) < (l0.length : Int)) = true := decide_eq_true c8
                    clear c8
                    by_cases c9 : 0 ≤ x7_1
                    · rw [if_pos c9] at H
                      have c9b0 : decide (0 ≤ x7_1) = true := decide_eq_true c9
                      clear c9
                      by_cases c10 : x7_1 < (l0.length : Int)
                      · rw [if_pos c10] at H
                        have c10b0 : decide (x7_1 < (l0.length : Int)) = true := decide_eq_true c10
                        clear c10
                        obtain ⟨ji11, hji11⟩ : ∃ j_ : Int, (wrap64 (x7_1 + 1)) = j_ := ⟨_, rfl⟩
                        replace H : (if 0 ≤ (ji11) then (if (wrap64 ((wrap64 (rd l0 x7_1)) + (wrap64 (256 * (wrap64 (rd l0 (ji11))))))) > 32767 then (if x6_1.length < 17592186044416 then (wireglassref25_Unwave.l0 k1 l0 (wrap64 ((wrap64 ((wrap64 ((wrap64 (rd l0 24)) + (wrap64 (256 * (wrap64 (rd l0 25)))))) + (wrap64 (65536 * (wrap64 (rd l0 26)))))) + (wrap64 (16777216 * (wrap64 (rd l0 27)))))) (x6_1 ++ [wrap64 ((wrap64 ((wrap64 (rd l0 x7_1)) + (wrap64 (256 * (wrap64 (rd l0 (ji11))))))) - 65536)]) (wrap64 (x7_1 + 2))) else (none)) else (if x6_1.length < 17592186044416 then (wireglassref25_Unwave.l0 k1 l0 (wrap64 ((wrap64 ((wrap64 ((wrap64 (rd l0 24)) + (wrap64 (256 * (wrap64 (rd l0 25)))))) + (wrap64 (65536 * (wrap64 (rd l0 26)))))) + (wrap64 (16777216 * (wrap64 (rd l0 27)))))) (x6_1 ++ [wrap64 ((wrap64 (rd l0 x7_1)) + (wrap64 (256 * (wrap64 (rd l0 (ji11))))))]) (wrap64 (x7_1 + 2))) else (none))) else (none)) = some (r1, r2, r3) := by first | (rw [hji11] at H; exact H) | (simp only [hji11] at H ⊢; exact H)
                        (try rw [hji11] at c8b0)
                        have hji11w : (IntKind.i64.wrap (x7_1 + 1)) = ji11 := (i64_w _).trans hji11
                        by_cases c12 : 0 ≤ (ji11)
                        · rw [if_pos c12] at H
                          have c12b0 : decide (0 ≤ (ji11)) = true := decide_eq_true c12
                          clear c12
                          by_cases c13 : (wrap64 ((wrap64 (rd l0 x7_1)) + (wrap64 (256 * (wrap64 (rd l0 (ji11))))))) > 32767
                          · rw [if_pos c13] at H
                            have c13b0 : decide (32767 < (wrap64 ((wrap64 (rd l0 x7_1)) + (wrap64 (256 * (wrap64 (rd l0 (ji11)))))))) = true := decide_eq_true c13
                            clear c13
                            by_cases c14 : x6_1.length < 17592186044416
                            · rw [if_pos c14] at H
                              have LMc14 := Aside0.mk c14
                              clear c14
                              obtain ⟨y222, hy222⟩ : ∃ y_ : List Int, y_ = (x6_1 ++ [wrap64 ((wrap64 ((wrap64 (rd l0 x7_1)) + (wrap64 (256 * (wrap64 (rd l0 (ji11))))))) - 65536)]) := ⟨_, rfl⟩
                              replace H : (wireglassref25_Unwave.l0 k1 l0 (wrap64 ((wrap64 ((wrap64 ((wrap64 (rd l0 24)) + (wrap64 (256 * (wrap64 (rd l0 25)))))) + (wrap64 (65536 * (wrap64 (rd l0 26)))))) + (wrap64 (16777216 * (wrap64 (rd l0 27)))))) y222 (wrap64 (x7_1 + 2))) = some (r1, r2, r3) := by first | (rw [hy222]; with_reducible exact H) | (have H2_ := (Option.bind_some _ _).symm.trans H; rw [hy222]; with_reducible exact H2_) | (have H2_ := (Option.bind_some _ _).symm.trans H; with_reducible exact H2_) | with_reducible exact H | (rw [hy222]; exact H) | exact H
                              have Ny222 := Aside0.mk hy222
                              clear hy222
                              have H' := Aside0.mk H
                              clear H
                              have p220 : 0 ≤ (x7_1 : Int) := of_decide_eq_true (by first | (with_reducible assumption) | assumption)
                              have q220 : x7_1 < (l0.length : Int) := of_decide_eq_true (by first | (with_reducible assumption) | assumption)
                              obtain ⟨ad220, e220, hx220_0⟩ := Kd.at_int HR0.out x7_1 p220 q220
                              obtain rfl : ad216 = ad220 := (by injection e220)
                              replace hx220_0 := (HB.out.cell (World.block_lt_of_cell? w _ hx220_0)).trans hx220_0
                              replace p220 := eq_true p220
                              replace q220 := eq_true q220
                              have p221 : 0 ≤ ((ji11) : Int) := of_decide_eq_true (by first | (with_reducible assumption) | assumption)
                              have q221 : (ji11) < (l0.length : Int) := of_decide_eq_true (by first | (with_reducible assumption) | assumption)
                              obtain ⟨ad221, e221, hx221_0⟩ := Kd.at_int HR0.out (ji11) p221 q221
                              obtain rfl : ad216 = ad221 := (by injection e221)
                              replace hx221_0 := (HB.out.cell (World.block_lt_of_cell? w _ hx221_0)).trans hx221_0
                              replace p221 := eq_true p221
                              replace q221 := eq_true q221
                              go_wp2_with (first | ((with_reducible refine gate_builtin (b := .append) (xs := #[.tmp 63, .tmp 65]) rfl ?_); at_builtin; refine Kd.R_append (Kd.int .i64) (w0 := w) w.heap.size rfl (.tmp 63) (.tmp 65) 22 3 (.int .i64 0) 8 rfl Try.underlying22 info3 rfl (by decide) (by omega) u6 x6_1 (wrap64 ((wrap64 ((wrap64 (rd l0 x7_1)) + (wrap64 (256 * (wrap64 (rd l0 (ji11))))))) - 65536)) [.int .i64 (wrap64 ((wrap64 ((wrap64 (rd l0 x7_1)) + (wrap64 (256 * (wrap64 (rd l0 (ji11))))))) - 65536))] (fun _ => True) (fun _ => False) rfl rfl ?aP (fun _ hk => hk.elim) ?aF ?aO ?aB ?aS ?aL ?_; (case aP => exact rfl); (case aB => exact (by repeat (first | (with_reducible first | exact HB.out | apply below_alloc | apply pw_below_drewN | apply below_drew1) | exact HB.out))); (case aF => exact (fun _ _ => trivial)); (case aO => exact (by (with_reducible repeat (first | apply Kd.R_alloc | apply Kd.R_drewN | apply Kd.R_drew)); exact HO_6.out)); (case aS => exact (below_size (by repeat (first | (with_reducible first | exact HB.out | apply below_alloc | apply pw_below_drewN | apply below_drew1) | exact HB.out)))); (case aL => have := LMc14.out; omega); intro v223 w15 ho hb hg hat; rw [← Ny222.out] at ho; have n0_ := Aside0.mk (hb); have n1_ := Aside0.mk (ho); clear HB; clear HO_6; have HB := n0_; have HO224 := n1_; clear n0_ n1_; clear ho hb hg hat))
                              repeat (go_quiet (first | ((with_reducible refine gate_builtin (b := .append) (xs := #[.tmp 63, .tmp 65]) rfl ?_); at_builtin; refine Kd.R_append (Kd.int .i64) (w0 := w) w.heap.size rfl (.tmp 63) (.tmp 65) 22 3 (.int .i64 0) 8 rfl Try.underlying22 info3 rfl (by decide) (by omega) u6 x6_1 (wrap64 ((wrap64 ((wrap64 (rd l0 x7_1)) + (wrap64 (256 * (wrap64 (rd l0 (ji11))))))) - 65536)) [.int .i64 (wrap64 ((wrap64 ((wrap64 (rd l0 x7_1)) + (wrap64 (256 * (wrap64 (rd l0 (ji11))))))) - 65536))] (fun _ => True) (fun _ => False) rfl rfl ?aP (fun _ hk => hk.elim) ?aF ?aO ?aB ?aS ?aL ?_; (case aP => exact rfl); (case aB => exact (by repeat (first | (with_reducible first | exact HB.out | apply below_alloc | apply pw_below_drewN | apply below_drew1) | exact HB.out))); (case aF => exact (fun _ _ => trivial)); (case aO => exact (by (with_reducible repeat (first | apply Kd.R_alloc | apply Kd.R_drewN | apply Kd.R_drew)); exact HO_6.out)); (case aS => exact (below_size (by repeat (first | (with_reducible first | exact HB.out | apply below_alloc | apply pw_below_drewN | apply below_drew1) | exact HB.out)))); (case aL => have := LMc14.out; omega); intro v223 w15 ho hb hg hat; rw [← Ny222.out] at ho; have n0_ := Aside0.mk (hb); have n1_ := Aside0.mk (ho); clear HB; clear HO_6; have HB := n0_; have HO224 := n1_; clear n0_ n1_; clear ho hb hg hat)); try go_wp2_with (first | ((with_reducible refine gate_builtin (b := .append) (xs := #[.tmp 63, .tmp 65]) rfl ?_); at_builtin; refine Kd.R_append (Kd.int .i64) (w0 := w) w.heap.size rfl (.tmp 63) (.tmp 65) 22 3 (.int .i64 0) 8 rfl Try.underlying22 info3 rfl (by decide) (by omega) u6 x6_1 (wrap64 ((wrap64 ((wrap64 (rd l0 x7_1)) + (wrap64 (256 * (wrap64 (rd l0 (ji11))))))) - 65536)) [.int .i64 (wrap64 ((wrap64 ((wrap64 (rd l0 x7_1)) + (wrap64 (256 * (wrap64 (rd l0 (ji11))))))) - 65536))] (fun _ => True) (fun _ => False) rfl rfl ?aP (fun _ hk => hk.elim) ?aF ?aO ?aB ?aS ?aL ?_; (case aP => exact rfl); (case aB => exact (by repeat (first | (with_reducible first | exact HB.out | apply below_alloc | apply pw_below_drewN | apply below_drew1) | exact HB.out))); (case aF => exact (fun _ _ => trivial)); (case aO => exact (by (with_reducible repeat (first | apply Kd.R_alloc | apply Kd.R_drewN | apply Kd.R_drew)); exact HO_6.out)); (case aS => exact (below_size (by repeat (first | (with_reducible first | exact HB.out | apply below_alloc | apply pw_below_drewN | apply below_drew1) | exact HB.out)))); (case aL => have := LMc14.out; omega); intro v223 w15 ho hb hg hat; rw [← Ny222.out] at ho; have n0_ := Aside0.mk (hb); have n1_ := Aside0.mk (ho); clear HB; clear HO_6; have HB := n0_; have HO224 := n1_; clear n0_ n1_; clear ho hb hg hat)))
                              go_roundg k1
                              case measure => have := HK1.out; omega
                              case rel => exact ⟨(y222), (wrap64 (x7_1 + 2)), (by first | rfl | (simp; done) | (simp [*]; done)), H', ⟨by have := HK1.out; omega⟩, ⟨by (with_reducible repeat (first | apply Kd.R_alloc | apply Kd.R_drewN | apply Kd.R_drew)); exact HO224.out⟩, ⟨by repeat (first | (with_reducible first | exact HB.out | apply below_alloc | apply pw_below_drewN | apply below_drew1) | exact HB.out)⟩⟩
                            · rw [if_neg c14] at H
                              exact absurd H (by simp)
                          · rw [if_neg c13] at H
                            have c13b0 : decide (32767 < (wrap64 ((wrap64 (rd l0 x7_1)) + (wrap64 (256 * (wrap64 (rd l0 (ji11)))))))) = false := decide_eq_false c13
                            clear c13
                            by_cases c16 : x6_1.length < 17592186044416
                            · rw [if_pos c16] at H
                              have LMc16 := Aside0.mk c16
                              clear c16
                              obtain ⟨y225, hy225⟩ : ∃ y_ : List Int, y_ = (x6_1 ++ [wrap64 ((wrap64 (rd l0 x7_1)) + (wrap64 (256 * (wrap64 (rd l0 (ji11))))))]) := ⟨_, rfl⟩
                              replace H : (wireglassref25_Unwave.l0 k1 l0 (wrap64 ((wrap64 ((wrap64 ((wrap64 (rd l0 24)) + (wrap64 (256 * (wrap64 (rd l0 25)))))) + (wrap64 (65536 * (wrap64 (rd l0 26)))))) + (wrap64 (16777216 * (wrap64 (rd l0 27)))))) y225 (wrap64 (x7_1 + 2))) = some (r1, r2, r3) := by first | (rw [hy225]; with_reducible exact H) | (have H2_ := (Option.bind_some _ _).symm.trans H; rw [hy225]; with_reducible exact H2_) | (have H2_ := (Option.bind_some _ _).symm.trans H; with_reducible exact H2_) | with_reducible exact H | (rw [hy225]; exact H) | exact H
                              have Ny225 := Aside0.mk hy225
                              clear hy225
                              have H' := Aside0.mk H
                              clear H
                              have p220 : 0 ≤ (x7_1 : Int) := of_decide_eq_true (by first | (with_reducible assumption) | assumption)
                              have q220 : x7_1 < (l0.length : Int) := of_decide_eq_true (by first | (with_reducible assumption) | assumption)
                              obtain ⟨ad220, e220, hx220_0⟩ := Kd.at_int HR0.out x7_1 p220 q220
                              obtain rfl : ad216 = ad220 := (by injection e220)
                              replace hx220_0 := (HB.out.cell (World.block_lt_of_cell? w _ hx220_0)).trans hx220_0
                              replace p220 := eq_true p220
                              replace q220 := eq_true q220
                              have p221 : 0 ≤ ((ji11) : Int) := of_decide_eq_true (by first | (with_reducible assumption) | assumption)
                              have q221 : (ji11) < (l0.length : Int) := of_decide_eq_true (by first | (with_reducible assumption) | assumption)
                              obtain ⟨ad221, e221, hx221_0⟩ := Kd.at_int HR0.out (ji11) p221 q221
                              obtain rfl : ad216 = ad221 := (by injection e221)
                              replace hx221_0 := (HB.out.cell (World.block_lt_of_cell? w _ hx221_0)).trans hx221_0
                              replace p221 := eq_true p221
                              replace q221 := eq_true q221
                              go_wp2_with (first | ((with_reducible refine gate_builtin (b := .append) (xs := #[.tmp 63, .tmp 65]) rfl ?_); at_builtin; refine Kd.R_append (Kd.int .i64) (w0 := w) w.heap.size rfl (.tmp 63) (.tmp 65) 22 3 (.int .i64 0) 8 rfl Try.underlying22 info3 rfl (by decide) (by omega) u6 x6_1 (wrap64 ((wrap64 (rd l0 x7_1)) + (wrap64 (256 * (wrap64 (rd l0 (ji11))))))) [.int .i64 (wrap64 ((wrap64 (rd l0 x7_1)) + (wrap64 (256 * (wrap64 (rd l0 (ji11)))))))] (fun _ => True) (fun _ => False) rfl rfl ?aP (fun _ hk => hk.elim) ?aF ?aO ?aB ?aS ?aL ?_; (case aP => exact rfl); (case aB => exact (by repeat (first | (with_reducible first | exact HB.out | apply below_alloc | apply pw_below_drewN | apply below_drew1) | exact HB.out))); (case aF => exact (fun _ _ => trivial)); (case aO => exact (by (with_reducible repeat (first | apply Kd.R_alloc | apply Kd.R_drewN | apply Kd.R_drew)); exact HO_6.out)); (case aS => exact (below_size (by repeat (first | (with_reducible first | exact HB.out | apply below_alloc | apply pw_below_drewN | apply below_drew1) | exact HB.out)))); (case aL => have := LMc16.out; omega); intro v226 w17 ho hb hg hat; rw [← Ny225.out] at ho; have n0_ := Aside0.mk (hb); have n1_ := Aside0.mk (ho); clear HB; clear HO_6; have HB := n0_; have HO227 := n1_; clear n0_ n1_; clear ho hb hg hat))
                              repeat (go_quiet (first | ((with_reducible refine gate_builtin (b := .append) (xs := #[.tmp 63, .tmp 65]) rfl ?_); at_builtin; refine Kd.R_append (Kd.int .i64) (w0 := w) w.heap.size rfl (.tmp 63) (.tmp 65) 22 3 (.int .i64 0) 8 rfl Try.underlying22 info3 rfl (by decide) (by omega) u6 x6_1 (wrap64 ((wrap64 (rd l0 x7_1)) + (wrap64 (256 * (wrap64 (rd l0 (ji11))))))) [.int .i64 (wrap64 ((wrap64 (rd l0 x7_1)) + (wrap64 (256 * (wrap64 (rd l0 (ji11)))))))] (fun _ => True) (fun _ => False) rfl rfl ?aP (fun _ hk => hk.elim) ?aF ?aO ?aB ?aS ?aL ?_; (case aP => exact rfl); (case aB => exact (by repeat (first | (with_reducible first | exact HB.out | apply below_alloc | apply pw_below_drewN | apply below_drew1) | exact HB.out))); (case aF => exact (fun _ _ => trivial)); (case aO => exact (by (with_reducible repeat (first | apply Kd.R_alloc | apply Kd.R_drewN | apply Kd.R_drew)); exact HO_6.out)); (case aS => exact (below_size (by repeat (first | (with_reducible first | exact HB.out | apply below_alloc | apply pw_below_drewN | apply below_drew1) | exact HB.out)))); (case aL => have := LMc16.out; omega); intro v226 w17 ho hb hg hat; rw [← Ny225.out] at ho; have n0_ := Aside0.mk (hb); have n1_ := Aside0.mk (ho); clear HB; clear HO_6; have HB := n0_; have HO227 := n1_; clear n0_ n1_; clear ho hb hg hat)); try go_wp2_with (first | ((with_reducible refine gate_builtin (b := .append) (xs := #[.tmp 63, .tmp 65]) rfl ?_); at_builtin; refine Kd.R_append (Kd.int .i64) (w0 := w) w.heap.size rfl (.tmp 63) (.tmp 65) 22 3 (.int .i64 0) 8 rfl Try.underlying22 info3 rfl (by decide) (by omega) u6 x6_1 (wrap64 ((wrap64 (rd l0 x7_1)) + (wrap64 (256 * (wrap64 (rd l0 (ji11))))))) [.int .i64 (wrap64 ((wrap64 (rd l0 x7_1)) + (wrap64 (256 * (wrap64 (rd l0 (ji11)))))))] (fun _ => True) (fun _ => False) rfl rfl ?aP (fun _ hk => hk.elim) ?aF ?aO ?aB ?aS ?aL ?_; (case aP => exact rfl); (case aB => exact (by repeat (first | (with_reducible first | exact HB.out | apply below_alloc | apply pw_below_drewN | apply below_drew1) | exact HB.out))); (case aF => exact (fun _ _ => trivial)); (case aO => exact (by (with_reducible repeat (first | apply Kd.R_alloc | apply Kd.R_drewN | apply Kd.R_drew)); exact HO_6.out)); (case aS => exact (below_size (by repeat (first | (with_reducible first | exact HB.out | apply below_alloc | apply pw_below_drewN | apply below_drew1) | exact HB.out)))); (case aL => have := LMc16.out; omega); intro v226 w17 ho hb hg hat; rw [← Ny225.out] at ho; have n0_ := Aside0.mk (hb); have n1_ := Aside0.mk (ho); clear HB; clear HO_6; have HB := n0_; have HO227 := n1_; clear n0_ n1_; clear ho hb hg hat)))
                              go_roundg k1
                              case measure => have := HK1.out; omega
                              case rel => exact ⟨(y225), (wrap64 (x7_1 + 2)), (by first | rfl | (simp; done) | (simp [*]; done)), H', ⟨by have := HK1.out; omega⟩, ⟨by (with_reducible repeat (first | apply Kd.R_alloc | apply Kd.R_drewN | apply Kd.R_drew)); exact HO227.out⟩, ⟨by repeat (first | (with_reducible first | exact HB.out | apply below_alloc | apply pw_below_drewN | apply below_drew1) | exact HB.out)⟩⟩
                            · rw [if_neg c16] at H
                              exact absurd H (by simp)
                        · rw [if_neg c12] at H
                          exact absurd H (by simp)
                      · rw [if_neg c10] at H
                        exact absurd H (by simp)
                    · rw [if_neg c9] at H
                      exact absurd H (by simp)
                  · rw [if_neg c8] at H
                    have c8b0 : decide ((wrap64 (x7_1 + 1)) < (l0.length : Int)) = false := decide_eq_false c8
                    clear c8
                    replace H := Option.bind_eq_some_iff.mp H
                    obtain ⟨⟨t228, t229⟩, A180, H⟩ := H
                    replace H : (if t229 = 0 then (if (strOfNums t228).toList = (strOfNums l0).toList then (some (x6_1, (wrap64 ((wrap64 ((wrap64 ((wrap64 (rd l0 24)) + (wrap64 (256 * (wrap64 (rd l0 25)))))) + (wrap64 (65536 * (wrap64 (rd l0 26)))))) + (wrap64 (16777216 * (wrap64 (rd l0 27)))))), 0)) else (some (([] : List Int), 0, 11))) else (some (([] : List Int), 0, 11))) = some (r1, r2, r3) := H
                    have A18 := Aside0.mk A180
                    clear A180
                    by_cases c19 : t229 = 0
                    · rw [if_pos c19] at H
                      have c19b0 : (t229 == 0) = true := beq_iff_eq.mpr c19
                      have c19b1 : (t229 != 0) = false := bne_eq_false_iff_eq.mpr c19
                      clear c19
                      by_cases c20 : (strOfNums t228).toList = (strOfNums l0).toList
                      · rw [if_pos c20] at H
                        have c20b0 : ((strOfNums t228).toList == (strOfNums l0).toList) = true := beq_iff_eq.mpr c20
                        have c20b1 : ((strOfNums t228).toList != (strOfNums l0).toList) = false := bne_eq_false_iff_eq.mpr c20
                        clear c20
                        simp only [Option.some.injEq, Prod.mk.injEq] at H
                        obtain ⟨rfl, rfl, rfl⟩ := H
                        obtain ⟨Ao21, co21, eo21⟩ := Kd.R_slice HO_6.out
                        subst eo21
                        go_wp2_with (first | (go_at_call 26; (with_reducible refine (wireglassref25_Wave.calls _ _ x6_1 (wrap64 ((wrap64 ((wrap64 ((wrap64 (rd l0 24)) + (wrap64 (256 * (wrap64 (rd l0 25)))))) + (wrap64 (65536 * (wrap64 (rd l0 26)))))) + (wrap64 (16777216 * (wrap64 (rd l0 27)))))) t228 t229 _ ?side1 ?side2 A18.out).mono ?_); (case side1 => repeat (first | exact (Kd.R_reads' HO_6.out).2.2 | (with_reducible refine Kd.C_alloc ?_ _) | (with_reducible refine Kd.C_drewN ?_ _) | (with_reducible refine Kd.C_drew ?_))); (case side2 => exact (Kd.R_reads' HO_6.out).2.1); rintro e w22 ⟨v230, rfl, ho0, hb⟩; have n0_ := Aside0.mk (Kd.R_below (by (with_reducible repeat (first | apply Kd.R_alloc | apply Kd.R_drewN | apply Kd.R_drew)); exact HO_6.out) hb); have n1_ := Aside0.mk (Kd.R_lower ho0 (below_size (by repeat (first | (with_reducible first | exact HB.out | apply below_alloc | apply pw_below_drewN | apply below_drew1) | exact HB.out)))); have n2_ := Aside0.mk (below_step (by repeat (first | (with_reducible first | exact HB.out | apply below_alloc | apply pw_below_drewN | apply below_drew1) | exact HB.out)) hb); clear HO_6; clear HB; have HO_6 := n0_; have HO231 := n1_; have HB := n2_; clear n0_ n1_ n2_; (try clear hb); (try clear hb2); (try clear hk); (try clear hi); (try clear ho0); have hcv23 := own_string (P := Try.prog) Try.underlying37 Try.underlying5 Try.underlying9 (Kd.own_of_R HO231.out); have hcv24 := Kd.C_string (P := Try.prog) (A := (some ad216)) (c := c0) Try.underlying37 Try.underlying5 Try.underlying9 (Kd.C_below HR0.out HB.out)))
                        repeat (go_quiet (first | (go_at_call 26; (with_reducible refine (wireglassref25_Wave.calls _ _ x6_1 (wrap64 ((wrap64 ((wrap64 ((wrap64 (rd l0 24)) + (wrap64 (256 * (wrap64 (rd l0 25)))))) + (wrap64 (65536 * (wrap64 (rd l0 26)))))) + (wrap64 (16777216 * (wrap64 (rd l0 27)))))) t228 t229 _ ?side1 ?side2 A18.out).mono ?_); (case side1 => repeat (first | exact (Kd.R_reads' HO_6.out).2.2 | (with_reducible refine Kd.C_alloc ?_ _) | (with_reducible refine Kd.C_drewN ?_ _) | (with_reducible refine Kd.C_drew ?_))); (case side2 => exact (Kd.R_reads' HO_6.out).2.1); rintro e w22 ⟨v230, rfl, ho0, hb⟩; have n0_ := Aside0.mk (Kd.R_below (by (with_reducible repeat (first | apply Kd.R_alloc | apply Kd.R_drewN | apply Kd.R_drew)); exact HO_6.out) hb); have n1_ := Aside0.mk (Kd.R_lower ho0 (below_size (by repeat (first | (with_reducible first | exact HB.out | apply below_alloc | apply pw_below_drewN | apply below_drew1) | exact HB.out)))); have n2_ := Aside0.mk (below_step (by repeat (first | (with_reducible first | exact HB.out | apply below_alloc | apply pw_below_drewN | apply below_drew1) | exact HB.out)) hb); clear HO_6; clear HB; have HO_6 := n0_; have HO231 := n1_; have HB := n2_; clear n0_ n1_ n2_; (try clear hb); (try clear hb2); (try clear hk); (try clear hi); (try clear ho0); have hcv23 := own_string (P := Try.prog) Try.underlying37 Try.underlying5 Try.underlying9 (Kd.own_of_R HO231.out); have hcv24 := Kd.C_string (P := Try.prog) (A := (some ad216)) (c := c0) Try.underlying37 Try.underlying5 Try.underlying9 (Kd.C_below HR0.out HB.out))); try go_wp2_with (first | (go_at_call 26; (with_reducible refine (wireglassref25_Wave.calls _ _ x6_1 (wrap64 ((wrap64 ((wrap64 ((wrap64 (rd l0 24)) + (wrap64 (256 * (wrap64 (rd l0 25)))))) + (wrap64 (65536 * (wrap64 (rd l0 26)))))) + (wrap64 (16777216 * (wrap64 (rd l0 27)))))) t228 t229 _ ?side1 ?side2 A18.out).mono ?_); (case side1 => repeat (first | exact (Kd.R_reads' HO_6.out).2.2 | (with_reducible refine Kd.C_alloc ?_ _) | (with_reducible refine Kd.C_drewN ?_ _) | (with_reducible refine Kd.C_drew ?_))); (case side2 => exact (Kd.R_reads' HO_6.out).2.1); rintro e w22 ⟨v230, rfl, ho0, hb⟩; have n0_ := Aside0.mk (Kd.R_below (by (with_reducible repeat (first | apply Kd.R_alloc | apply Kd.R_drewN | apply Kd.R_drew)); exact HO_6.out) hb); have n1_ := Aside0.mk (Kd.R_lower ho0 (below_size (by repeat (first | (with_reducible first | exact HB.out | apply below_alloc | apply pw_below_drewN | apply below_drew1) | exact HB.out)))); have n2_ := Aside0.mk (below_step (by repeat (first | (with_reducible first | exact HB.out | apply below_alloc | apply pw_below_drewN | apply below_drew1) | exact HB.out)) hb); clear HO_6; clear HB; have HO_6 := n0_; have HO231 := n1_; have HB := n2_; clear n0_ n1_ n2_; (try clear hb); (try clear hb2); (try clear hk); (try clear hi); (try clear ho0); have hcv23 := own_string (P := Try.prog) Try.underlying37 Try.underlying5 Try.underlying9 (Kd.own_of_R HO231.out); have hcv24 := Kd.C_string (P := Try.prog) (A := (some ad216)) (c := c0) Try.underlying37 Try.underlying5 Try.underlying9 (Kd.C_below HR0.out HB.out))))
                        go_ret3
                        exact ⟨_, by first | rfl | (simp [errW_none, errW_some] <;> rfl) | (simp [*, errW_none, errW_some] <;> rfl), by (with_reducible repeat (first | apply Kd.R_alloc | apply Kd.R_drewN | apply Kd.R_drew)); exact HO_6.out, by repeat (first | (with_reducible first | exact HB.out | apply below_alloc | apply pw_below_drewN | apply below_drew1) | exact HB.out)⟩
                      · rw [if_neg c20] at H
                        have c20b0 : ((strOfNums t228).toList == (strOfNums l0).toList) = false := beq_eq_false_iff_ne.mpr c20
                        have c20b1 : ((strOfNums t228).toList != (strOfNums l0).toList) = true := bne_iff_ne.mpr c20
                        simp only [Option.some.injEq, Prod.mk.injEq] at H
                        obtain ⟨rfl, rfl, rfl⟩ := H
                        obtain ⟨Ao25, co25, eo25⟩ := Kd.R_slice HO_6.out
                        subst eo25
                        go_wp2_with (first | (go_at_call 26; (with_reducible refine (wireglassref25_Wave.calls _ _ x6_1 (wrap64 ((wrap64 ((wrap64 ((wrap64 (rd l0 24)) + (wrap64 (256 * (wrap64 (rd l0 25)))))) + (wrap64 (65536 * (wrap64 (rd l0 26)))))) + (wrap64 (16777216 * (wrap64 (rd l0 27)))))) t228 t229 _ ?side1 ?side2 A18.out).mono ?_); (case side1 => repeat (first | exact (Kd.R_reads' HO_6.out).2.2 | (with_reducible refine Kd.C_alloc ?_ _) | (with_reducible refine Kd.C_drewN ?_ _) | (with_reducible refine Kd.C_drew ?_))); (case side2 => exact (Kd.R_reads' HO_6.out).2.1); rintro e w26 ⟨v230, rfl, ho0, hb⟩; have n0_ := Aside0.mk (Kd.R_below (by (with_reducible repeat (first | apply Kd.R_alloc | apply Kd.R_drewN | apply Kd.R_drew)); exact HO_6.out) hb); have n1_ := Aside0.mk (Kd.R_lower ho0 (below_size (by repeat (first | (with_reducible first | exact HB.out | apply below_alloc | apply pw_below_drewN | apply below_drew1) | exact HB.out)))); have n2_ := Aside0.mk (below_step (by repeat (first | (with_reducible first | exact HB.out | apply below_alloc | apply pw_below_drewN | apply below_drew1) | exact HB.out)) hb); clear HO_6; clear HB; have HO_6 := n0_; have HO231 := n1_; have HB := n2_; clear n0_ n1_ n2_; (try clear hb); (try clear hb2); (try clear hk); (try clear hi); (try clear ho0); have hcv27 := own_string (P := Try.prog) Try.underlying37 Try.underlying5 Try.underlying9 (Kd.own_of_R HO231.out); have hcv28 := Kd.C_string (P := Try.prog) (A := (some ad216)) (c := c0) Try.underlying37 Try.underlying5 Try.underlying9 (Kd.C_below HR0.out HB.out)))
                        repeat (go_quiet (first | (go_at_call 26; (with_reducible refine (wireglassref25_Wave.calls _ _ x6_1 (wrap64 ((wrap64 ((wrap64 ((wrap64 (rd l0 24)) + (wrap64 (256 * (wrap64 (rd l0 25)))))) + (wrap64 (65536 * (wrap64 (rd l0 26)))))) + (wrap64 (16777216 * (wrap64 (rd l0 27)))))) t228 t229 _ ?side1 ?side2 A18.out).mono ?_); (case side1 => repeat (first | exact (Kd.R_reads' HO_6.out).2.2 | (with_reducible refine Kd.C_alloc ?_ _) | (with_reducible refine Kd.C_drewN ?_ _) | (with_reducible refine Kd.C_drew ?_))); (case side2 => exact (Kd.R_reads' HO_6.out).2.1); rintro e w26 ⟨v230, rfl, ho0, hb⟩; have n0_ := Aside0.mk (Kd.R_below (by (with_reducible repeat (first | apply Kd.R_alloc | apply Kd.R_drewN | apply Kd.R_drew)); exact HO_6.out) hb); have n1_ := Aside0.mk (Kd.R_lower ho0 (below_size (by repeat (first | (with_reducible first | exact HB.out | apply below_alloc | apply pw_below_drewN | apply below_drew1) | exact HB.out)))); have n2_ := Aside0.mk (below_step (by repeat (first | (with_reducible first | exact HB.out | apply below_alloc | apply pw_below_drewN | apply below_drew1) | exact HB.out)) hb); clear HO_6; clear HB; have HO_6 := n0_; have HO231 := n1_; have HB := n2_; clear n0_ n1_ n2_; (try clear hb); (try clear hb2); (try clear hk); (try clear hi); (try clear ho0); have hcv27 := own_string (P := Try.prog) Try.underlying37 Try.underlying5 Try.underlying9 (Kd.own_of_R HO231.out); have hcv28 := Kd.C_string (P := Try.prog) (A := (some ad216)) (c := c0) Try.underlying37 Try.underlying5 Try.underlying9 (Kd.C_below HR0.out HB.out))); try go_wp2_with (first | (go_at_call 26; (with_reducible refine (wireglassref25_Wave.calls _ _ x6_1 (wrap64 ((wrap64 ((wrap64 ((wrap64 (rd l0 24)) + (wrap64 (256 * (wrap64 (rd l0 25)))))) + (wrap64 (65536 * (wrap64 (rd l0 26)))))) + (wrap64 (16777216 * (wrap64 (rd l0 27)))))) t228 t229 _ ?side1 ?side2 A18.out).mono ?_); (case side1 => repeat (first | exact (Kd.R_reads' HO_6.out).2.2 | (with_reducible refine Kd.C_alloc ?_ _) | (with_reducible refine Kd.C_drewN ?_ _) | (with_reducible refine Kd.C_drew ?_))); (case side2 => exact (Kd.R_reads' HO_6.out).2.1); rintro e w26 ⟨v230, rfl, ho0, hb⟩; have n0_ := Aside0.mk (Kd.R_below (by (with_reducible repeat (first | apply Kd.R_alloc | apply Kd.R_drewN | apply Kd.R_drew)); exact HO_6.out) hb); have n1_ := Aside0.mk (Kd.R_lower ho0 (below_size (by repeat (first | (with_reducible first | exact HB.out | apply below_alloc | apply pw_below_drewN | apply below_drew1) | exact HB.out)))); have n2_ := Aside0.mk (below_step (by repeat (first | (with_reducible first | exact HB.out | apply below_alloc | apply pw_below_drewN | apply below_drew1) | exact HB.out)) hb); clear HO_6; clear HB; have HO_6 := n0_; have HO231 := n1_; have HB := n2_; clear n0_ n1_ n2_; (try clear hb); (try clear hb2); (try clear hk); (try clear hi); (try clear ho0); have hcv27 := own_string (P := Try.prog) Try.underlying37 Try.underlying5 Try.underlying9 (Kd.own_of_R HO231.out); have hcv28 := Kd.C_string (P := Try.prog) (A := (some ad216)) (c := c0) Try.underlying37 Try.underlying5 Try.underlying9 (Kd.C_below HR0.out HB.out))))
                        go_ret3
                        exact ⟨_, by first | rfl | (simp [errW_none, errW_some] <;> rfl) | (simp [*, errW_none, errW_some] <;> rfl), by first | exact Kd.R_nil _ _ _ _ _ | exact Kd.N_nil _ _ _ _ _ | exact Kd.V_nil _ _ _ _ _ | exact Kd.Q_nil _ _ _ _ _ | exact Kd.S_nil _ _ _ _ _, by repeat (first | (with_reducible first | exact HB.out | apply below_alloc | apply pw_below_drewN | apply below_drew1) | exact HB.out)⟩
                    · rw [if_neg c19] at H
                      have c19b0 : (t229 == 0) = false := beq_eq_false_iff_ne.mpr c19
                      have c19b1 : (t229 != 0) = true := bne_iff_ne.mpr c19
                      simp only [Option.some.injEq, Prod.mk.injEq] at H
                      obtain ⟨rfl, rfl, rfl⟩ := H
                      obtain ⟨Ao29, co29, eo29⟩ := Kd.R_slice HO_6.out
                      subst eo29
                      go_wp2_with (first | (go_at_call 26; (with_reducible refine (wireglassref25_Wave.calls _ _ x6_1 (wrap64 ((wrap64 ((wrap64 ((wrap64 (rd l0 24)) + (wrap64 (256 * (wrap64 (rd l0 25)))))) + (wrap64 (65536 * (wrap64 (rd l0 26)))))) + (wrap64 (16777216 * (wrap64 (rd l0 27)))))) t228 t229 _ ?side1 ?side2 A18.out).mono ?_); (case side1 => repeat (first | exact (Kd.R_reads' HO_6.out).2.2 | (with_reducible refine Kd.C_alloc ?_ _) | (with_reducible refine Kd.C_drewN ?_ _) | (with_reducible refine Kd.C_drew ?_))); (case side2 => exact (Kd.R_reads' HO_6.out).2.1); rintro e w30 ⟨v230, rfl, ho0, hb⟩; have n0_ := Aside0.mk (Kd.R_below (by (with_reducible repeat (first | apply Kd.R_alloc | apply Kd.R_drewN | apply Kd.R_drew)); exact HO_6.out) hb); have n1_ := Aside0.mk (Kd.R_lower ho0 (below_size (by repeat (first | (with_reducible first | exact HB.out | apply below_alloc | apply pw_below_drewN | apply below_drew1) | exact HB.out)))); have n2_ := Aside0.mk (below_step (by repeat (first | (with_reducible first | exact HB.out | apply below_alloc | apply pw_below_drewN | apply below_drew1) | exact HB.out)) hb); clear HO_6; clear HB; have HO_6 := n0_; have HO231 := n1_; have HB := n2_; clear n0_ n1_ n2_; (try clear hb); (try clear hb2); (try clear hk); (try clear hi); (try clear ho0)))
                      repeat (go_quiet (first | (go_at_call 26; (with_reducible refine (wireglassref25_Wave.calls _ _ x6_1 (wrap64 ((wrap64 ((wrap64 ((wrap64 (rd l0 24)) + (wrap64 (256 * (wrap64 (rd l0 25)))))) + (wrap64 (65536 * (wrap64 (rd l0 26)))))) + (wrap64 (16777216 * (wrap64 (rd l0 27)))))) t228 t229 _ ?side1 ?side2 A18.out).mono ?_); (case side1 => repeat (first | exact (Kd.R_reads' HO_6.out).2.2 | (with_reducible refine Kd.C_alloc ?_ _) | (with_reducible refine Kd.C_drewN ?_ _) | (with_reducible refine Kd.C_drew ?_))); (case side2 => exact (Kd.R_reads' HO_6.out).2.1); rintro e w30 ⟨v230, rfl, ho0, hb⟩; have n0_ := Aside0.mk (Kd.R_below (by (with_reducible repeat (first | apply Kd.R_alloc | apply Kd.R_drewN | apply Kd.R_drew)); exact HO_6.out) hb); have n1_ := Aside0.mk (Kd.R_lower ho0 (below_size (by repeat (first | (with_reducible first | exact HB.out | apply below_alloc | apply pw_below_drewN | apply below_drew1) | exact HB.out)))); have n2_ := Aside0.mk (below_step (by repeat (first | (with_reducible first | exact HB.out | apply below_alloc | apply pw_below_drewN | apply below_drew1) | exact HB.out)) hb); clear HO_6; clear HB; have HO_6 := n0_; have HO231 := n1_; have HB := n2_; clear n0_ n1_ n2_; (try clear hb); (try clear hb2); (try clear hk); (try clear hi); (try clear ho0))); try go_wp2_with (first | (go_at_call 26; (with_reducible refine (wireglassref25_Wave.calls _ _ x6_1 (wrap64 ((wrap64 ((wrap64 ((wrap64 (rd l0 24)) + (wrap64 (256 * (wrap64 (rd l0 25)))))) + (wrap64 (65536 * (wrap64 (rd l0 26)))))) + (wrap64 (16777216 * (wrap64 (rd l0 27)))))) t228 t229 _ ?side1 ?side2 A18.out).mono ?_); (case side1 => repeat (first | exact (Kd.R_reads' HO_6.out).2.2 | (with_reducible refine Kd.C_alloc ?_ _) | (with_reducible refine Kd.C_drewN ?_ _) | (with_reducible refine Kd.C_drew ?_))); (case side2 => exact (Kd.R_reads' HO_6.out).2.1); rintro e w30 ⟨v230, rfl, ho0, hb⟩; have n0_ := Aside0.mk (Kd.R_below (by (with_reducible repeat (first | apply Kd.R_alloc | apply Kd.R_drewN | apply Kd.R_drew)); exact HO_6.out) hb); have n1_ := Aside0.mk (Kd.R_lower ho0 (below_size (by repeat (first | (with_reducible first | exact HB.out | apply below_alloc | apply pw_below_drewN | apply below_drew1) | exact HB.out)))); have n2_ := Aside0.mk (below_step (by repeat (first | (with_reducible first | exact HB.out | apply below_alloc | apply pw_below_drewN | apply below_drew1) | exact HB.out)) hb); clear HO_6; clear HB; have HO_6 := n0_; have HO231 := n1_; have HB := n2_; clear n0_ n1_ n2_; (try clear hb); (try clear hb2); (try clear hk); (try clear hi); (try clear ho0))))
                      go_ret3
                      exact ⟨_, by first | rfl | (simp [errW_none, errW_some] <;> rfl) | (simp [*, errW_none, errW_some] <;> rfl), by first | exact Kd.R_nil _ _ _ _ _ | exact Kd.N_nil _ _ _ _ _ | exact Kd.V_nil _ _ _ _ _ | exact Kd.Q_nil _ _ _ _ _ | exact Kd.S_nil _ _ _ _ _, by repeat (first | (with_reducible first | exact HB.out | apply below_alloc | apply pw_below_drewN | apply below_drew1) | exact HB.out)⟩
            · rw [if_neg c7] at H
              exact absurd H (by simp)
          · rw [if_neg c6] at H
            exact absurd H (by simp)
        · rw [if_neg c5] at H
          exact absurd H (by simp)
      · rw [if_neg c4] at H
        exact absurd H (by simp)

/-! ### wireglasslaw25_VoiceUnwaves: function 5 -/
def wireglasslaw25_VoiceUnwaves.f (k : Nat) (l0 : List Int) : Option (Bool) := if (l0.length : Int) > 400000 then ((wireglasslaw25_known.f k).bind fun t232 => (some t232)) else ((voice_Unwave.f k l0).bind fun bt233 => ((wireglassref25_Unwave.f k l0).bind fun bt238 => ((wireglassref02_SameInts.f k bt233.1 bt238.1).bind fun t243 => (if t243 = true then (if bt233.2.1 = bt238.2.1 then (if bt233.2.2 = bt238.2.2 then ((wireglasslaw25_known.f k).bind fun t244 => (some t244)) else (some false)) else (some false)) else (some false)))))
theorem wireglasslaw25_VoiceUnwaves.mono : ∀ a0 k, LeO (wireglasslaw25_VoiceUnwaves.f k a0) (wireglasslaw25_VoiceUnwaves.f (k + 1) a0) := by
  intro a0 k
  unfold wireglasslaw25_VoiceUnwaves.f
  repeat' first
      | (with_reducible exact voice_Unwave.mono _ _)
      | (with_reducible exact wireglasslaw25_known.mono _)
      | (with_reducible exact wireglassref02_SameInts.mono _ _ _)
      | (with_reducible exact wireglassref25_Unwave.mono _ _)
      | (with_reducible exact LeO.refl _)
      | (with_reducible exact LeO.none _)
      | (with_reducible refine LeO.ite ?_ ?_)
      | (with_reducible refine LeO.bind ?_ (fun _ => ?_))
      | exact voice_Unwave.mono _ _
      | exact wireglasslaw25_known.mono _
      | exact wireglassref02_SameInts.mono _ _ _
      | exact wireglassref25_Unwave.mono _ _
      | exact LeO.none _
      | refine LeO.ite ?_ ?_
      | refine LeO.bind ?_ (fun _ => ?_)
set_option maxHeartbeats 8000000 in
set_option maxRecDepth 100000 in
theorem wireglasslaw25_VoiceUnwaves.calls (k : Nat) (A0 : Option Addr) (c0 : Nat) (l0 : List Int) (r : Bool) (w : World) (hr0 : Kd.C (Kd.int .u8) w A0 l0.length l0) (hc0 : l0.length ≤ c0) (h : wireglasslaw25_VoiceUnwaves.f k l0 = some r) :
    Calls Try.prog 5 #[.slice A0 l0.length c0] w fun e w' => e = .returned (.bool r) ∧ Below w.heap.size w w' := by
  have HR0 := Aside0.mk hr0
  have HC0 := Aside0.mk hc0
  clear hr0 hc0
  have HB := Aside0.mk (Below.refl w.heap.size w)
  have H : (if (l0.length : Int) > 400000 then ((wireglasslaw25_known.f k).bind fun t232 => (some t232)) else ((voice_Unwave.f k l0).bind fun bt233 => ((wireglassref25_Unwave.f k l0).bind fun bt238 => ((wireglassref02_SameInts.f k bt233.1 bt238.1).bind fun t243 => (if t243 = true then (if bt233.2.1 = bt238.2.1 then (if bt233.2.2 = bt238.2.2 then ((wireglasslaw25_known.f k).bind fun t244 => (some t244)) else (some false)) else (some false)) else (some false)))))) = some r := h
  clear h
  by_cases c2 : (l0.length : Int) > 400000
  · rw [if_pos c2] at H
    have c2b0 : decide (400000 < (l0.length : Int)) = true := decide_eq_true c2
    have c2b1 : decide (400000 < l0.length) = true := decide_eq_true (by omega)
    clear c2
    replace H := Option.bind_eq_some_iff.mp H
    obtain ⟨t232, A30, H⟩ := H
    replace H : (some t232) = some r := H
    have A3 := Aside0.mk A30
    clear A30
    obtain rfl := Option.some.inj H
    go_enter Try.func5, Try.ntmps5
    go_wp2_with (first | ((with_reducible refine gate_callee (f := 7) rfl ?_); refine goesL_ (some 12) rfl rfl Try.func7 (by kernel_rfl) rfl #[] rfl (by (try simp only [List.map_toArray, List.map_cons, List.map_nil]); first | done | rfl | (simp only [List.length_drop, List.length_take]; rfl)) ?_; (with_reducible refine (wireglasslaw25_known.calls k  t232 _ A3.out).mono ?_); rintro e w4 ⟨rfl, hb⟩; refine ⟨_, rfl, ?_⟩; have n0_ := Aside0.mk (below_step (by repeat (first | (with_reducible first | exact HB.out | apply below_alloc | apply pw_below_drewN | apply below_drew1) | exact HB.out)) hb); clear HB; have HB := n0_; clear n0_; (try clear hb); (try clear hb2); (try clear hk); (try clear hi)))
    go_ret
    exact ⟨by first | rfl | (simp [errW_none, errW_some] <;> rfl) | (simp [*, errW_none, errW_some] <;> rfl), by repeat (first | (with_reducible first | exact HB.out | apply below_alloc | apply pw_below_drewN | apply below_drew1) | exact HB.out)⟩
  · rw [if_neg c2] at H
    have c2b0 : decide (400000 < (l0.length : Int)) = false := decide_eq_false c2
    have c2b1 : decide (400000 < l0.length) = false := decide_eq_false (by omega)
    clear c2
    replace H := Option.bind_eq_some_iff.mp H
    obtain ⟨⟨t233, t234, t235⟩, A50, H⟩ := H
    replace H : ((wireglassref25_Unwave.f k l0).bind fun bt238 => ((wireglassref02_SameInts.f k t233 bt238.1).bind fun t243 => (if t243 = true then (if t234 = bt238.2.1 then (if t235 = bt238.2.2 then ((wireglasslaw25_known.f k).bind fun t244 => (some t244)) else (some false)) else (some false)) else (some false)))) = some r := H
    have A5 := Aside0.mk A50
    clear A50
    replace H := Option.bind_eq_some_iff.mp H
    obtain ⟨⟨t238, t239, t240⟩, A60, H⟩ := H
    replace H : ((wireglassref02_SameInts.f k t233 t238).bind fun t243 => (if t243 = true then (if t234 = t239 then (if t235 = t240 then ((wireglasslaw25_known.f k).bind fun t244 => (some t244)) else (some false)) else (some false)) else (some false))) = some r := H
    have A6 := Aside0.mk A60
    clear A60
    replace H := Option.bind_eq_some_iff.mp H
    obtain ⟨t243, A70, H⟩ := H
    replace H : (if t243 = true then (if t234 = t239 then (if t235 = t240 then ((wireglasslaw25_known.f k).bind fun t244 => (some t244)) else (some false)) else (some false)) else (some false)) = some r := H
    have A7 := Aside0.mk A70
    clear A70
    by_cases c8 : t243 = true
    · subst c8
      have H1 : (if t234 = t239 then (if t235 = t240 then ((wireglasslaw25_known.f k).bind fun t244 => (some t244)) else (some false)) else (some false)) = some r := by rw [if_pos rfl] at H; exact H
      clear H
      have H := H1
      clear H1
      by_cases c9 : t234 = t239
      · rw [if_pos c9] at H
        have c9b0 : (t234 == t239) = true := beq_iff_eq.mpr c9
        have c9b1 : (t234 != t239) = false := bne_eq_false_iff_eq.mpr c9
        clear c9
        by_cases c10 : t235 = t240
        · rw [if_pos c10] at H
          have c10b0 : (t235 == t240) = true := beq_iff_eq.mpr c10
          have c10b1 : (t235 != t240) = false := bne_eq_false_iff_eq.mpr c10
          clear c10
          replace H := Option.bind_eq_some_iff.mp H
          obtain ⟨t244, A110, H⟩ := H
          replace H : (some t244) = some r := H
          have A11 := Aside0.mk A110
          clear A110
          obtain rfl := Option.some.inj H
          go_enter Try.func5, Try.ntmps5
          go_wp2_with (first | ((with_reducible refine gate_callee (f := 23) rfl ?_); refine goesL_ (some 15) rfl rfl Try.func23 (by kernel_rfl) rfl #[.slice A0 l0.length c0] rfl (by (try simp only [List.map_toArray, List.map_cons, List.map_nil]); first | done | rfl | (simp only [List.length_drop, List.length_take]; rfl)) ?_; (with_reducible refine (voice_Unwave.calls k _ _ l0 t233 t234 t235 _ ?side1 ?side2 A5.out).mono ?_); (case side1 => repeat (first | exact HR0.out | (with_reducible refine Kd.C_alloc ?_ _) | (with_reducible refine Kd.C_drewN ?_ _) | (with_reducible refine Kd.C_drew ?_))); (case side2 => exact HC0.out); rintro e w12 ⟨v236, rfl, ho0, hb⟩; refine ⟨_, rfl, ?_⟩; have n0_ := Aside0.mk (Kd.R_lower ho0 (below_size (by repeat (first | (with_reducible first | exact HB.out | apply below_alloc | apply pw_below_drewN | apply below_drew1) | exact HB.out)))); have n1_ := Aside0.mk (below_step (by repeat (first | (with_reducible first | exact HB.out | apply below_alloc | apply pw_below_drewN | apply below_drew1) | exact HB.out)) hb); clear HB; have HO237 := n0_; have HB := n1_; clear n0_ n1_; (try clear hb); (try clear hb2); (try clear hk); (try clear hi); (try clear ho0)) | ((with_reducible refine gate_callee (f := 24) rfl ?_); refine goesL_ (some 21) rfl rfl Try.func24 (by kernel_rfl) rfl #[.slice A0 l0.length c0] rfl (by (try simp only [List.map_toArray, List.map_cons, List.map_nil]); first | done | rfl | (simp only [List.length_drop, List.length_take]; rfl)) ?_; (with_reducible refine (wireglassref25_Unwave.calls k _ _ l0 t238 t239 t240 _ ?side1 ?side2 A6.out).mono ?_); (case side1 => repeat (first | exact (Kd.C_below HR0.out HB.out) | (with_reducible refine Kd.C_alloc ?_ _) | (with_reducible refine Kd.C_drewN ?_ _) | (with_reducible refine Kd.C_drew ?_))); (case side2 => exact HC0.out); rintro e w13 ⟨v241, rfl, ho0, hb⟩; refine ⟨_, rfl, ?_⟩; have n0_ := Aside0.mk (Kd.R_elder' (by (with_reducible repeat (first | apply Kd.R_alloc | apply Kd.R_drewN | apply Kd.R_drew)); exact HO237.out) (Kd.R_base ho0) hb); have n1_ := Aside0.mk (Kd.R_lower (Kd.R_new' ho0 (Kd.R_lt (by (with_reducible repeat (first | apply Kd.R_alloc | apply Kd.R_drewN | apply Kd.R_drew)); exact HO237.out))) (below_size (by repeat (first | (with_reducible first | exact HB.out | apply below_alloc | apply pw_below_drewN | apply below_drew1) | exact HB.out)))); have n2_ := Aside0.mk (below_step (by repeat (first | (with_reducible first | exact HB.out | apply below_alloc | apply pw_below_drewN | apply below_drew1) | exact HB.out)) hb); clear HO237; clear HB; have HO237 := n0_; have HO242 := n1_; have HB := n2_; clear n0_ n1_ n2_; (try clear hb); (try clear hb2); (try clear hk); (try clear hi); (try clear ho0); obtain ⟨Ao14, co14, eo14⟩ := Kd.R_slice HO237.out; subst eo14; obtain ⟨Ao15, co15, eo15⟩ := Kd.R_slice HO242.out; subst eo15) | ((with_reducible refine gate_callee (f := 16) rfl ?_); refine goesL_ (some 27) rfl rfl Try.func16 (by kernel_rfl) rfl #[.slice Ao14 t233.length co14, .slice Ao15 t238.length co15] rfl (by (try simp only [List.map_toArray, List.map_cons, List.map_nil]); first | done | rfl | (simp only [List.length_drop, List.length_take]; rfl)) ?_; (with_reducible refine (wireglassref02_SameInts.calls k _ _ t233 _ _ t238 true _ ?side1 ?side2 ?side3 ?side4 A7.out).mono ?_); (case side1 => repeat (first | exact (Kd.R_reads' HO237.out).2.2 | (with_reducible refine Kd.C_alloc ?_ _) | (with_reducible refine Kd.C_drewN ?_ _) | (with_reducible refine Kd.C_drew ?_))); (case side2 => exact (Kd.R_reads' HO237.out).2.1); (case side3 => repeat (first | exact (Kd.R_reads' HO242.out).2.2 | (with_reducible refine Kd.C_alloc ?_ _) | (with_reducible refine Kd.C_drewN ?_ _) | (with_reducible refine Kd.C_drew ?_))); (case side4 => exact (Kd.R_reads' HO242.out).2.1); rintro e w' ⟨rfl, ⟨nd, rfl⟩⟩; refine ⟨_, rfl, ?_⟩) | (go_at_call 7; (with_reducible refine (wireglasslaw25_known.calls k  t244 _ A11.out).mono ?_); rintro e w16 ⟨rfl, hb⟩; have n0_ := Aside0.mk (Kd.R_below (by (with_reducible repeat (first | apply Kd.R_alloc | apply Kd.R_drewN | apply Kd.R_drew)); exact HO237.out) hb); have n1_ := Aside0.mk (Kd.R_below (by (with_reducible repeat (first | apply Kd.R_alloc | apply Kd.R_drewN | apply Kd.R_drew)); exact HO242.out) hb); have n2_ := Aside0.mk (below_step (by repeat (first | (with_reducible first | exact HB.out | apply below_alloc | apply pw_below_drewN | apply below_drew1) | exact HB.out)) hb); clear HO237; clear HO242; clear HB; have HO237 := n0_; have HO242 := n1_; have HB := n2_; clear n0_ n1_ n2_; (try clear hb); (try clear hb2); (try clear hk); (try clear hi)))
          go_ret
          exact ⟨by first | rfl | (simp [errW_none, errW_some] <;> rfl) | (simp [*, errW_none, errW_some] <;> rfl), by repeat (first | (with_reducible first | exact HB.out | apply below_alloc | apply pw_below_drewN | apply below_drew1) | exact HB.out)⟩
        · rw [if_neg c10] at H
          have c10b0 : (t235 == t240) = false := beq_eq_false_iff_ne.mpr c10
          have c10b1 : (t235 != t240) = true := bne_iff_ne.mpr c10
          obtain rfl := Option.some.inj H
          go_enter Try.func5, Try.ntmps5
          go_wp2_with (first | ((with_reducible refine gate_callee (f := 23) rfl ?_); refine goesL_ (some 15) rfl rfl Try.func23 (by kernel_rfl) rfl #[.slice A0 l0.length c0] rfl (by (try simp only [List.map_toArray, List.map_cons, List.map_nil]); first | done | rfl | (simp only [List.length_drop, List.length_take]; rfl)) ?_; (with_reducible refine (voice_Unwave.calls k _ _ l0 t233 t234 t235 _ ?side1 ?side2 A5.out).mono ?_); (case side1 => repeat (first | exact HR0.out | (with_reducible refine Kd.C_alloc ?_ _) | (with_reducible refine Kd.C_drewN ?_ _) | (with_reducible refine Kd.C_drew ?_))); (case side2 => exact HC0.out); rintro e w17 ⟨v236, rfl, ho0, hb⟩; refine ⟨_, rfl, ?_⟩; have n0_ := Aside0.mk (Kd.R_lower ho0 (below_size (by repeat (first | (with_reducible first | exact HB.out | apply below_alloc | apply pw_below_drewN | apply below_drew1) | exact HB.out)))); have n1_ := Aside0.mk (below_step (by repeat (first | (with_reducible first | exact HB.out | apply below_alloc | apply pw_below_drewN | apply below_drew1) | exact HB.out)) hb); clear HB; have HO237 := n0_; have HB := n1_; clear n0_ n1_; (try clear hb); (try clear hb2); (try clear hk); (try clear hi); (try clear ho0)) | ((with_reducible refine gate_callee (f := 24) rfl ?_); refine goesL_ (some 21) rfl rfl Try.func24 (by kernel_rfl) rfl #[.slice A0 l0.length c0] rfl (by (try simp only [List.map_toArray, List.map_cons, List.map_nil]); first | done | rfl | (simp only [List.length_drop, List.length_take]; rfl)) ?_; (with_reducible refine (wireglassref25_Unwave.calls k _ _ l0 t238 t239 t240 _ ?side1 ?side2 A6.out).mono ?_); (case side1 => repeat (first | exact (Kd.C_below HR0.out HB.out) | (with_reducible refine Kd.C_alloc ?_ _) | (with_reducible refine Kd.C_drewN ?_ _) | (with_reducible refine Kd.C_drew ?_))); (case side2 => exact HC0.out); rintro e w18 ⟨v241, rfl, ho0, hb⟩; refine ⟨_, rfl, ?_⟩; have n0_ := Aside0.mk (Kd.R_elder' (by (with_reducible repeat (first | apply Kd.R_alloc | apply Kd.R_drewN | apply Kd.R_drew)); exact HO237.out) (Kd.R_base ho0) hb); have n1_ := Aside0.mk (Kd.R_lower (Kd.R_new' ho0 (Kd.R_lt (by (with_reducible repeat (first | apply Kd.R_alloc | apply Kd.R_drewN | apply Kd.R_drew)); exact HO237.out))) (below_size (by repeat (first | (with_reducible first | exact HB.out | apply below_alloc | apply pw_below_drewN | apply below_drew1) | exact HB.out)))); have n2_ := Aside0.mk (below_step (by repeat (first | (with_reducible first | exact HB.out | apply below_alloc | apply pw_below_drewN | apply below_drew1) | exact HB.out)) hb); clear HO237; clear HB; have HO237 := n0_; have HO242 := n1_; have HB := n2_; clear n0_ n1_ n2_; (try clear hb); (try clear hb2); (try clear hk); (try clear hi); (try clear ho0); obtain ⟨Ao19, co19, eo19⟩ := Kd.R_slice HO237.out; subst eo19; obtain ⟨Ao20, co20, eo20⟩ := Kd.R_slice HO242.out; subst eo20) | ((with_reducible refine gate_callee (f := 16) rfl ?_); refine goesL_ (some 27) rfl rfl Try.func16 (by kernel_rfl) rfl #[.slice Ao19 t233.length co19, .slice Ao20 t238.length co20] rfl (by (try simp only [List.map_toArray, List.map_cons, List.map_nil]); first | done | rfl | (simp only [List.length_drop, List.length_take]; rfl)) ?_; (with_reducible refine (wireglassref02_SameInts.calls k _ _ t233 _ _ t238 true _ ?side1 ?side2 ?side3 ?side4 A7.out).mono ?_); (case side1 => repeat (first | exact (Kd.R_reads' HO237.out).2.2 | (with_reducible refine Kd.C_alloc ?_ _) | (with_reducible refine Kd.C_drewN ?_ _) | (with_reducible refine Kd.C_drew ?_))); (case side2 => exact (Kd.R_reads' HO237.out).2.1); (case side3 => repeat (first | exact (Kd.R_reads' HO242.out).2.2 | (with_reducible refine Kd.C_alloc ?_ _) | (with_reducible refine Kd.C_drewN ?_ _) | (with_reducible refine Kd.C_drew ?_))); (case side4 => exact (Kd.R_reads' HO242.out).2.1); rintro e w' ⟨rfl, ⟨nd, rfl⟩⟩; refine ⟨_, rfl, ?_⟩))
          go_ret
          exact ⟨by first | rfl | (simp [errW_none, errW_some] <;> rfl) | (simp [*, errW_none, errW_some] <;> rfl), by repeat (first | (with_reducible first | exact HB.out | apply below_alloc | apply pw_below_drewN | apply below_drew1) | exact HB.out)⟩
      · rw [if_neg c9] at H
        have c9b0 : (t234 == t239) = false := beq_eq_false_iff_ne.mpr c9
        have c9b1 : (t234 != t239) = true := bne_iff_ne.mpr c9
        obtain rfl := Option.some.inj H
        go_enter Try.func5, Try.ntmps5
        go_wp2_with (first | ((with_reducible refine gate_callee (f := 23) rfl ?_); refine goesL_ (some 15) rfl rfl Try.func23 (by kernel_rfl) rfl #[.slice A0 l0.length c0] rfl (by (try simp only [List.map_toArray, List.map_cons, List.map_nil]); first | done | rfl | (simp only [List.length_drop, List.length_take]; rfl)) ?_; (with_reducible refine (voice_Unwave.calls k _ _ l0 t233 t234 t235 _ ?side1 ?side2 A5.out).mono ?_); (case side1 => repeat (first | exact HR0.out | (with_reducible refine Kd.C_alloc ?_ _) | (with_reducible refine Kd.C_drewN ?_ _) | (with_reducible refine Kd.C_drew ?_))); (case side2 => exact HC0.out); rintro e w21 ⟨v236, rfl, ho0, hb⟩; refine ⟨_, rfl, ?_⟩; have n0_ := Aside0.mk (Kd.R_lower ho0 (below_size (by repeat (first | (with_reducible first | exact HB.out | apply below_alloc | apply pw_below_drewN | apply below_drew1) | exact HB.out)))); have n1_ := Aside0.mk (below_step (by repeat (first | (with_reducible first | exact HB.out | apply below_alloc | apply pw_below_drewN | apply below_drew1) | exact HB.out)) hb); clear HB; have HO237 := n0_; have HB := n1_; clear n0_ n1_; (try clear hb); (try clear hb2); (try clear hk); (try clear hi); (try clear ho0)) | ((with_reducible refine gate_callee (f := 24) rfl ?_); refine goesL_ (some 21) rfl rfl Try.func24 (by kernel_rfl) rfl #[.slice A0 l0.length c0] rfl (by (try simp only [List.map_toArray, List.map_cons, List.map_nil]); first | done | rfl | (simp only [List.length_drop, List.length_take]; rfl)) ?_; (with_reducible refine (wireglassref25_Unwave.calls k _ _ l0 t238 t239 t240 _ ?side1 ?side2 A6.out).mono ?_); (case side1 => repeat (first | exact (Kd.C_below HR0.out HB.out) | (with_reducible refine Kd.C_alloc ?_ _) | (with_reducible refine Kd.C_drewN ?_ _) | (with_reducible refine Kd.C_drew ?_))); (case side2 => exact HC0.out); rintro e w22 ⟨v241, rfl, ho0, hb⟩; refine ⟨_, rfl, ?_⟩; have n0_ := Aside0.mk (Kd.R_elder' (by (with_reducible repeat (first | apply Kd.R_alloc | apply Kd.R_drewN | apply Kd.R_drew)); exact HO237.out) (Kd.R_base ho0) hb); have n1_ := Aside0.mk (Kd.R_lower (Kd.R_new' ho0 (Kd.R_lt (by (with_reducible repeat (first | apply Kd.R_alloc | apply Kd.R_drewN | apply Kd.R_drew)); exact HO237.out))) (below_size (by repeat (first | (with_reducible first | exact HB.out | apply below_alloc | apply pw_below_drewN | apply below_drew1) | exact HB.out)))); have n2_ := Aside0.mk (below_step (by repeat (first | (with_reducible first | exact HB.out | apply below_alloc | apply pw_below_drewN | apply below_drew1) | exact HB.out)) hb); clear HO237; clear HB; have HO237 := n0_; have HO242 := n1_; have HB := n2_; clear n0_ n1_ n2_; (try clear hb); (try clear hb2); (try clear hk); (try clear hi); (try clear ho0); obtain ⟨Ao23, co23, eo23⟩ := Kd.R_slice HO237.out; subst eo23; obtain ⟨Ao24, co24, eo24⟩ := Kd.R_slice HO242.out; subst eo24) | ((with_reducible refine gate_callee (f := 16) rfl ?_); refine goesL_ (some 27) rfl rfl Try.func16 (by kernel_rfl) rfl #[.slice Ao23 t233.length co23, .slice Ao24 t238.length co24] rfl (by (try simp only [List.map_toArray, List.map_cons, List.map_nil]); first | done | rfl | (simp only [List.length_drop, List.length_take]; rfl)) ?_; (with_reducible refine (wireglassref02_SameInts.calls k _ _ t233 _ _ t238 true _ ?side1 ?side2 ?side3 ?side4 A7.out).mono ?_); (case side1 => repeat (first | exact (Kd.R_reads' HO237.out).2.2 | (with_reducible refine Kd.C_alloc ?_ _) | (with_reducible refine Kd.C_drewN ?_ _) | (with_reducible refine Kd.C_drew ?_))); (case side2 => exact (Kd.R_reads' HO237.out).2.1); (case side3 => repeat (first | exact (Kd.R_reads' HO242.out).2.2 | (with_reducible refine Kd.C_alloc ?_ _) | (with_reducible refine Kd.C_drewN ?_ _) | (with_reducible refine Kd.C_drew ?_))); (case side4 => exact (Kd.R_reads' HO242.out).2.1); rintro e w' ⟨rfl, ⟨nd, rfl⟩⟩; refine ⟨_, rfl, ?_⟩))
        go_ret
        exact ⟨by first | rfl | (simp [errW_none, errW_some] <;> rfl) | (simp [*, errW_none, errW_some] <;> rfl), by repeat (first | (with_reducible first | exact HB.out | apply below_alloc | apply pw_below_drewN | apply below_drew1) | exact HB.out)⟩
    · replace c8 := Bool.eq_false_iff.mpr c8
      subst c8
      have H1 : (some false) = some r := by rw [if_neg (show ¬ (false = true) by decide)] at H; exact H
      clear H
      have H := H1
      clear H1
      obtain rfl := Option.some.inj H
      go_enter Try.func5, Try.ntmps5
      go_wp2_with (first | ((with_reducible refine gate_callee (f := 23) rfl ?_); refine goesL_ (some 15) rfl rfl Try.func23 (by kernel_rfl) rfl #[.slice A0 l0.length c0] rfl (by (try simp only [List.map_toArray, List.map_cons, List.map_nil]); first | done | rfl | (simp only [List.length_drop, List.length_take]; rfl)) ?_; (with_reducible refine (voice_Unwave.calls k _ _ l0 t233 t234 t235 _ ?side1 ?side2 A5.out).mono ?_); (case side1 => repeat (first | exact HR0.out | (with_reducible refine Kd.C_alloc ?_ _) | (with_reducible refine Kd.C_drewN ?_ _) | (with_reducible refine Kd.C_drew ?_))); (case side2 => exact HC0.out); rintro e w25 ⟨v236, rfl, ho0, hb⟩; refine ⟨_, rfl, ?_⟩; have n0_ := Aside0.mk (Kd.R_lower ho0 (below_size (by repeat (first | (with_reducible first | exact HB.out | apply below_alloc | apply pw_below_drewN | apply below_drew1) | exact HB.out)))); have n1_ := Aside0.mk (below_step (by repeat (first | (with_reducible first | exact HB.out | apply below_alloc | apply pw_below_drewN | apply below_drew1) | exact HB.out)) hb); clear HB; have HO237 := n0_; have HB := n1_; clear n0_ n1_; (try clear hb); (try clear hb2); (try clear hk); (try clear hi); (try clear ho0)) | ((with_reducible refine gate_callee (f := 24) rfl ?_); refine goesL_ (some 21) rfl rfl Try.func24 (by kernel_rfl) rfl #[.slice A0 l0.length c0] rfl (by (try simp only [List.map_toArray, List.map_cons, List.map_nil]); first | done | rfl | (simp only [List.length_drop, List.length_take]; rfl)) ?_; (with_reducible refine (wireglassref25_Unwave.calls k _ _ l0 t238 t239 t240 _ ?side1 ?side2 A6.out).mono ?_); (case side1 => repeat (first | exact (Kd.C_below HR0.out HB.out) | (with_reducible refine Kd.C_alloc ?_ _) | (with_reducible refine Kd.C_drewN ?_ _) | (with_reducible refine Kd.C_drew ?_))); (case side2 => exact HC0.out); rintro e w26 ⟨v241, rfl, ho0, hb⟩; refine ⟨_, rfl, ?_⟩; have n0_ := Aside0.mk (Kd.R_elder' (by (with_reducible repeat (first | apply Kd.R_alloc | apply Kd.R_drewN | apply Kd.R_drew)); exact HO237.out) (Kd.R_base ho0) hb); have n1_ := Aside0.mk (Kd.R_lower (Kd.R_new' ho0 (Kd.R_lt (by (with_reducible repeat (first | apply Kd.R_alloc | apply Kd.R_drewN | apply Kd.R_drew)); exact HO237.out))) (below_size (by repeat (first | (with_reducible first | exact HB.out | apply below_alloc | apply pw_below_drewN | apply below_drew1) | exact HB.out)))); have n2_ := Aside0.mk (below_step (by repeat (first | (with_reducible first | exact HB.out | apply below_alloc | apply pw_below_drewN | apply below_drew1) | exact HB.out)) hb); clear HO237; clear HB; have HO237 := n0_; have HO242 := n1_; have HB := n2_; clear n0_ n1_ n2_; (try clear hb); (try clear hb2); (try clear hk); (try clear hi); (try clear ho0); obtain ⟨Ao27, co27, eo27⟩ := Kd.R_slice HO237.out; subst eo27; obtain ⟨Ao28, co28, eo28⟩ := Kd.R_slice HO242.out; subst eo28) | ((with_reducible refine gate_callee (f := 16) rfl ?_); refine goesL_ (some 27) rfl rfl Try.func16 (by kernel_rfl) rfl #[.slice Ao27 t233.length co27, .slice Ao28 t238.length co28] rfl (by (try simp only [List.map_toArray, List.map_cons, List.map_nil]); first | done | rfl | (simp only [List.length_drop, List.length_take]; rfl)) ?_; (with_reducible refine (wireglassref02_SameInts.calls k _ _ t233 _ _ t238 false _ ?side1 ?side2 ?side3 ?side4 A7.out).mono ?_); (case side1 => repeat (first | exact (Kd.R_reads' HO237.out).2.2 | (with_reducible refine Kd.C_alloc ?_ _) | (with_reducible refine Kd.C_drewN ?_ _) | (with_reducible refine Kd.C_drew ?_))); (case side2 => exact (Kd.R_reads' HO237.out).2.1); (case side3 => repeat (first | exact (Kd.R_reads' HO242.out).2.2 | (with_reducible refine Kd.C_alloc ?_ _) | (with_reducible refine Kd.C_drewN ?_ _) | (with_reducible refine Kd.C_drew ?_))); (case side4 => exact (Kd.R_reads' HO242.out).2.1); rintro e w' ⟨rfl, ⟨nd, rfl⟩⟩; refine ⟨_, rfl, ?_⟩))
      go_ret
      exact ⟨by first | rfl | (simp [errW_none, errW_some] <;> rfl) | (simp [*, errW_none, errW_some] <;> rfl), by repeat (first | (with_reducible first | exact HB.out | apply below_alloc | apply pw_below_drewN | apply below_drew1) | exact HB.out)⟩

/-- THE ONE PURE STATEMENT of wireglasslaw25_VoiceUnwaves: yours. -/
def wireglasslaw25_VoiceUnwaves.Pure : Prop := ∀ (l0 : List Int), l0.length ≤ maxLen → l0.length * 1 ≤ 140737488351232 → (∀ x ∈ l0, (Lit.int .u8 x).wf = true) → ∃ k, wireglasslaw25_VoiceUnwaves.f k l0 = some true
theorem wireglasslaw25_VoiceUnwaves.walk (P : wireglasslaw25_VoiceUnwaves.Pure) (a0 : Option Addr) (len0 cap0 : Nat) (z0 : List Int) (w : World) (w0 : (a0 = none ∧ len0 = 0 ∧ cap0 = 0 ∧ z0 = []) ∨ ∃ x, a0 = some x ∧ len0 ≤ cap0 ∧ cap0 ≤ maxLen ∧ z0.length = cap0 ∧ (∀ i, i < z0.length → w.cell? (x.add i) = some (.int .u8 (z0.getD i 0))) ∧ ∀ n ∈ z0, (Lit.int .u8 n).wf = true) (y0 : len0 * 1 ≤ 140737488351232) :
    Calls Try.prog 5 #[.slice a0 len0 cap0] w fun e w' => e = .returned (.bool true) ∧ Below w.heap.size w w' := by
  obtain ⟨l0, rfl, hr0, hm0, hw0, hc0⟩ := ReadsInt.ofRowC w0
  obtain ⟨k, h⟩ := P l0 hm0 y0 hw0
  refine (wireglasslaw25_VoiceUnwaves.calls k _ _ l0 true w (Kd.C_of_reads (d := (0 : Int)) (h1 := fun _ => rfl) hr0) hc0 h).mono ?_
  rintro e w' ⟨rfl, hd⟩
  exact ⟨rfl, hd⟩

/-! ### voice_Level: function 27 -/
def voice_Level.l0 : Nat → List Int → Int → Int → List Int → Int → Int → Option (Int × Int × Int)
  | 0, _, _, _, _, _, _ => none
  | k + 1, x0, x5, x6, x15, x16, x17 => if x17 < x16 then (if 0 ≤ x17 then (if x17 < (x15.length : Int) then (voice_Level.l0 k x0 (mx (mx x5 (rd x15 x17)) (wrap64 (-(rd x15 x17)))) (wrap64 (x6 + (mx (rd x15 x17) (wrap64 (-(rd x15 x17)))))) x15 x16 (wrap64 (x17 + 1))) else (none)) else (none)) else (if (mx 1 (x0.length : Int)) = 0 then (none) else (some (x5, wrap64 (Int.tdiv x6 (mx 1 (x0.length : Int))), 0)))
def voice_Level.f (k : Nat) (l0 : List Int) : Option (Int × Int × Int) := (voice_areSamples.f l0).bind fun t245 => (if t245 = true then (if (l0.length : Int) > 80000 then (some (0, 0, 3)) else (voice_Level.l0 k l0 0 0 l0 (l0.length : Int) 0)) else (some (0, 0, 1)))
theorem voice_Level.mono_l : ∀ k, (∀ y0 y1 y2 y3 y4 y5, LeO (voice_Level.l0 k y0 y1 y2 y3 y4 y5) (voice_Level.l0 (k + 1) y0 y1 y2 y3 y4 y5))
  | 0 => fun _ _ _ _ _ _ r h => by simp [voice_Level.l0] at h
  | k + 1 => by
    have ih0 := voice_Level.mono_l k
    · intro y0 y1 y2 y3 y4 y5
      unfold voice_Level.l0
      repeat' first
      | (with_reducible exact ih0 _ _ _ _ _ _)
      | (with_reducible exact LeO.refl _)
      | (with_reducible exact LeO.none _)
      | (with_reducible refine LeO.ite ?_ ?_)
      | (with_reducible refine LeO.bind ?_ (fun _ => ?_))
      | exact ih0 _ _ _ _ _ _
      | exact LeO.none _
      | refine LeO.ite ?_ ?_
      | refine LeO.bind ?_ (fun _ => ?_)
theorem voice_Level.mono : ∀ a0 k, LeO (voice_Level.f k a0) (voice_Level.f (k + 1) a0) := by
  intro a0 k
  have ih0 := voice_Level.mono_l k
  unfold voice_Level.f
  repeat' first
      | (with_reducible exact ih0 _ _ _ _ _ _)
      | (with_reducible exact LeO.refl _)
      | (with_reducible exact LeO.none _)
      | (with_reducible refine LeO.ite ?_ ?_)
      | (with_reducible refine LeO.bind ?_ (fun _ => ?_))
      | exact ih0 _ _ _ _ _ _
      | exact LeO.none _
      | refine LeO.ite ?_ ?_
      | refine LeO.bind ?_ (fun _ => ?_)
set_option maxHeartbeats 8000000 in
set_option maxRecDepth 100000 in
theorem voice_Level.calls (k : Nat) (A0 : Option Addr) (c0 : Nat) (l0 : List Int) (r1 : Int) (r2 : Int) (r3 : Int) (w : World) (hr0 : Kd.C (Kd.int .i64) w A0 l0.length l0) (hc0 : l0.length ≤ c0) (h : voice_Level.f k l0 = some (r1, r2, r3)) :
    Calls Try.prog 27 #[.slice A0 l0.length c0] w fun e w' => e = .returned (.tuple #[.int .i64 r1, .int .i64 r2, .int .i64 r3]) ∧ Below w.heap.size w w' := by
  have HR0 := Aside0.mk hr0
  have HC0 := Aside0.mk hc0
  clear hr0 hc0
  have HB := Aside0.mk (Below.refl w.heap.size w)
  have H : ((voice_areSamples.f l0).bind fun t245 => (if t245 = true then (if (l0.length : Int) > 80000 then (some (0, 0, 3)) else (voice_Level.l0 k l0 0 0 l0 (l0.length : Int) 0)) else (some (0, 0, 1)))) = some (r1, r2, r3) := h
  clear h
  replace H := Option.bind_eq_some_iff.mp H
  obtain ⟨t245, A20, H⟩ := H
  replace H : (if t245 = true then (if (l0.length : Int) > 80000 then (some (0, 0, 3)) else (voice_Level.l0 k l0 0 0 l0 (l0.length : Int) 0)) else (some (0, 0, 1))) = some (r1, r2, r3) := H
  have A2 := Aside0.mk A20
  clear A20
  by_cases c3 : t245 = true
  · subst c3
    have H1 : (if (l0.length : Int) > 80000 then (some (0, 0, 3)) else (voice_Level.l0 k l0 0 0 l0 (l0.length : Int) 0)) = some (r1, r2, r3) := by rw [if_pos rfl] at H; exact H
    clear H
    have H := H1
    clear H1
    by_cases c4 : (l0.length : Int) > 80000
    · rw [if_pos c4] at H
      have c4b0 : decide (80000 < (l0.length : Int)) = true := decide_eq_true c4
      have c4b1 : decide (80000 < l0.length) = true := decide_eq_true (by omega)
      clear c4
      simp only [Option.some.injEq, Prod.mk.injEq] at H
      obtain ⟨rfl, rfl, rfl⟩ := H
      go_enter Try.func27, Try.ntmps27
      go_wp2_with (first | (go_at_call 35; (with_reducible refine (voice_areSamples.calls _ _ l0 true _ ?side1 ?side2 A2.out).mono ?_); (case side1 => repeat (first | exact HR0.out | (with_reducible refine Kd.C_alloc ?_ _) | (with_reducible refine Kd.C_drewN ?_ _) | (with_reducible refine Kd.C_drew ?_))); (case side2 => exact HC0.out); rintro e w' ⟨rfl, ⟨nd, rfl⟩⟩; (try first | exact ⟨rfl, _, World.drewN_drewN _ _ _⟩ | exact ⟨rfl, _, Eq.trans (World.drewN_drewN _ _ _) (congrArg (World.drewN _) (Nat.add_assoc _ _ _))⟩)))
      repeat (go_quiet (first | (go_at_call 35; (with_reducible refine (voice_areSamples.calls _ _ l0 true _ ?side1 ?side2 A2.out).mono ?_); (case side1 => repeat (first | exact HR0.out | (with_reducible refine Kd.C_alloc ?_ _) | (with_reducible refine Kd.C_drewN ?_ _) | (with_reducible refine Kd.C_drew ?_))); (case side2 => exact HC0.out); rintro e w' ⟨rfl, ⟨nd, rfl⟩⟩; (try first | exact ⟨rfl, _, World.drewN_drewN _ _ _⟩ | exact ⟨rfl, _, Eq.trans (World.drewN_drewN _ _ _) (congrArg (World.drewN _) (Nat.add_assoc _ _ _))⟩))); try go_wp2_with (first | (go_at_call 35; (with_reducible refine (voice_areSamples.calls _ _ l0 true _ ?side1 ?side2 A2.out).mono ?_); (case side1 => repeat (first | exact HR0.out | (with_reducible refine Kd.C_alloc ?_ _) | (with_reducible refine Kd.C_drewN ?_ _) | (with_reducible refine Kd.C_drew ?_))); (case side2 => exact HC0.out); rintro e w' ⟨rfl, ⟨nd, rfl⟩⟩; (try first | exact ⟨rfl, _, World.drewN_drewN _ _ _⟩ | exact ⟨rfl, _, Eq.trans (World.drewN_drewN _ _ _) (congrArg (World.drewN _) (Nat.add_assoc _ _ _))⟩))))
      go_ret3
      exact ⟨by first | rfl | (simp [errW_none, errW_some] <;> rfl) | (simp [*, errW_none, errW_some] <;> rfl), by repeat (first | (with_reducible first | exact HB.out | apply below_alloc | apply pw_below_drewN | apply below_drew1) | exact HB.out)⟩
    · rw [if_neg c4] at H
      have c4b0 : decide (80000 < (l0.length : Int)) = false := decide_eq_false c4
      have c4b1 : decide (80000 < l0.length) = false := decide_eq_false (by omega)
      clear c4
      have H' := Aside0.mk H
      clear H
      go_enter Try.func27, Try.ntmps27
      go_wp2_with (first | (go_at_call 35; (with_reducible refine (voice_areSamples.calls _ _ l0 true _ ?side1 ?side2 A2.out).mono ?_); (case side1 => repeat (first | exact HR0.out | (with_reducible refine Kd.C_alloc ?_ _) | (with_reducible refine Kd.C_drewN ?_ _) | (with_reducible refine Kd.C_drew ?_))); (case side2 => exact HC0.out); rintro e w' ⟨rfl, ⟨nd, rfl⟩⟩; (try first | exact ⟨rfl, _, World.drewN_drewN _ _ _⟩ | exact ⟨rfl, _, Eq.trans (World.drewN_drewN _ _ _) (congrArg (World.drewN _) (Nat.add_assoc _ _ _))⟩)))
      repeat (go_quiet (first | (go_at_call 35; (with_reducible refine (voice_areSamples.calls _ _ l0 true _ ?side1 ?side2 A2.out).mono ?_); (case side1 => repeat (first | exact HR0.out | (with_reducible refine Kd.C_alloc ?_ _) | (with_reducible refine Kd.C_drewN ?_ _) | (with_reducible refine Kd.C_drew ?_))); (case side2 => exact HC0.out); rintro e w' ⟨rfl, ⟨nd, rfl⟩⟩; (try first | exact ⟨rfl, _, World.drewN_drewN _ _ _⟩ | exact ⟨rfl, _, Eq.trans (World.drewN_drewN _ _ _) (congrArg (World.drewN _) (Nat.add_assoc _ _ _))⟩))); try go_wp2_with (first | (go_at_call 35; (with_reducible refine (voice_areSamples.calls _ _ l0 true _ ?side1 ?side2 A2.out).mono ?_); (case side1 => repeat (first | exact HR0.out | (with_reducible refine Kd.C_alloc ?_ _) | (with_reducible refine Kd.C_drewN ?_ _) | (with_reducible refine Kd.C_drew ?_))); (case side2 => exact HC0.out); rintro e w' ⟨rfl, ⟨nd, rfl⟩⟩; (try first | exact ⟨rfl, _, World.drewN_drewN _ _ _⟩ | exact ⟨rfl, _, Eq.trans (World.drewN_drewN _ _ _) (congrArg (World.drewN _) (Nat.add_assoc _ _ _))⟩))))
      go_loopg [5, 6, 17] k (fun kq v5 v6 v17 w' => ∃ (x5_1 : Int) (x6_1 : Int) (x17_1 : Int), v5 = .int .i64 x5_1 ∧ v6 = .int .i64 x6_1 ∧ v17 = .int .i64 x17_1 ∧ Aside0 (voice_Level.l0 kq l0 x5_1 x6_1 l0 (l0.length : Int) x17_1 = some (r1, r2, r3)) ∧ Aside0 (kq ≤ k) ∧ Aside0 (Below w.heap.size w w'))
      case atStart => exact ⟨(0), (0), (0), (by first | rfl | (simp; done) | (simp [*]; done)), (by first | rfl | (simp; done) | (simp [*]; done)), (by first | rfl | (simp; done) | (simp [*]; done)), H', ⟨Nat.le_refl _⟩, ⟨by repeat (first | (with_reducible first | exact HB.out | apply below_alloc | apply pw_below_drewN | apply below_drew1) | exact HB.out)⟩⟩
      case round =>
        clear H'
        try clear c2
        try clear p2
        try clear c3
        try clear c4
        try clear c4b0
        try clear c4b1
        obtain ⟨x5_1, x6_1, x17_1, rfl, rfl, rfl, HA, HK1, HB⟩ := hrel
        cases gk with
        | zero => exact absurd HA.out (by simp [voice_Level.l0])
        | succ k1 =>
          have H := HA.out
          clear HA
          simp only [voice_Level.l0] at H
          by_cases c5 : x17_1 < (l0.length : Int)
          · rw [if_pos c5] at H
            have c5b0 : decide (x17_1 < (l0.length : Int)) = true := decide_eq_true c5
            clear c5
            by_cases c6 : 0 ≤ x17_1
            · rw [if_pos c6] at H
              have c6b0 : decide (0 ≤ x17_1) = true := decide_eq_true c6
              clear c6
              by_cases c7 : x17_1 < (l0.length : Int)
              · rw [if_pos c7] at H
                have c7b0 : decide (x17_1 < (l0.length : Int)) = true := decide_eq_true c7
                clear c7
                obtain ⟨ji8, hji8⟩ : ∃ j_ : Int, (mx x5_1 (rd l0 x17_1)) = j_ := ⟨_, rfl⟩
                replace H : (voice_Level.l0 k1 l0 (mx (ji8) (wrap64 (-(rd l0 x17_1)))) (wrap64 (x6_1 + (mx (rd l0 x17_1) (wrap64 (-(rd l0 x17_1)))))) l0 (l0.length : Int) (wrap64 (x17_1 + 1))) = some (r1, r2, r3) := by first | (rw [hji8] at H; exact H) | (simp only [hji8] at H ⊢; exact H)
                have hji8_ : (if x5_1 < (rd l0 x17_1) then (rd l0 x17_1) else x5_1) = ji8 := hji8
                obtain ⟨ji9, hji9⟩ : ∃ j_ : Int, (mx (ji8) (wrap64 (-(rd l0 x17_1)))) = j_ := ⟨_, rfl⟩
                replace H : (voice_Level.l0 k1 l0 ji9 (wrap64 (x6_1 + (mx (rd l0 x17_1) (wrap64 (-(rd l0 x17_1)))))) l0 (l0.length : Int) (wrap64 (x17_1 + 1))) = some (r1, r2, r3) := by first | (rw [hji9] at H; exact H) | (simp only [hji9] at H ⊢; exact H)
                have hji9_ : (if (ji8) < (wrap64 (-(rd l0 x17_1))) then (wrap64 (-(rd l0 x17_1))) else (ji8)) = ji9 := hji9
                obtain ⟨ji10, hji10⟩ : ∃ j_ : Int, (mx (rd l0 x17_1) (wrap64 (-(rd l0 x17_1)))) = j_ := ⟨_, rfl⟩
                replace H : (voice_Level.l0 k1 l0 ji9 (wrap64 (x6_1 + (ji10))) l0 (l0.length : Int) (wrap64 (x17_1 + 1))) = some (r1, r2, r3) := by first | (rw [hji10] at H; exact H) | (simp only [hji10] at H ⊢; exact H)
                have hji10_ : (if (rd l0 x17_1) < (wrap64 (-(rd l0 x17_1))) then (wrap64 (-(rd l0 x17_1))) else (rd l0 x17_1)) = ji10 := hji10
                have H' := Aside0.mk H
                clear H
                have p246 : 0 ≤ (x17_1 : Int) := of_decide_eq_true (by first | (with_reducible assumption) | assumption)
                have q246 : x17_1 < (l0.length : Int) := of_decide_eq_true (by first | (with_reducible assumption) | assumption)
                obtain ⟨ad246, e246, hx246_0⟩ := Kd.at_int HR0.out x17_1 p246 q246
                cases e246
                replace hx246_0 := (HB.out.cell (World.block_lt_of_cell? w _ hx246_0)).trans hx246_0
                replace p246 := eq_true p246
                replace q246 := eq_true q246
                go_wp2
                repeat (go_quiet (fail); try go_wp2)
                go_roundg k1
                case measure => have := HK1.out; omega
                case rel => exact ⟨(ji9), (wrap64 (x6_1 + (ji10))), (wrap64 (x17_1 + 1)), (by first | rfl | (simp; done) | (simp only [← hji9] <;> (first | rfl | simp)) | (simp [*]; done)), (by first | rfl | (simp; done) | (simp only [← hji10] <;> (first | rfl | simp)) | (simp [*]; done)), (by first | rfl | (simp; done) | (simp [*]; done)), H', ⟨by have := HK1.out; omega⟩, ⟨by repeat (first | (with_reducible first | exact HB.out | apply below_alloc | apply pw_below_drewN | apply below_drew1) | exact HB.out)⟩⟩
              · rw [if_neg c7] at H
                exact absurd H (by simp)
            · rw [if_neg c6] at H
              exact absurd H (by simp)
          · rw [if_neg c5] at H
            have c5b0 : decide (x17_1 < (l0.length : Int)) = false := decide_eq_false c5
            clear c5
            obtain ⟨ji11, hji11⟩ : ∃ j_ : Int, (mx 1 (l0.length : Int)) = j_ := ⟨_, rfl⟩
            replace H : (if (ji11) = 0 then (none) else (some (x5_1, wrap64 (Int.tdiv x6_1 (ji11)), 0))) = some (r1, r2, r3) := by first | (rw [hji11] at H; exact H) | (simp only [hji11] at H ⊢; exact H)
            have hji11_ : (if 1 < (l0.length : Int) then (l0.length : Int) else 1) = ji11 := hji11
            by_cases c12 : (ji11) = 0
            · rw [if_pos c12] at H
              exact absurd H (by simp)
            · rw [if_neg c12] at H
              have c12b0 : ((ji11) == 0) = false := beq_eq_false_iff_ne.mpr c12
              have c12b1 : ((ji11) != 0) = true := bne_iff_ne.mpr c12
              simp only [Option.some.injEq, Prod.mk.injEq] at H
              obtain ⟨rfl, rfl, rfl⟩ := H
              go_wp2
              repeat (go_quiet (fail); try go_wp2)
              go_ret3
              exact ⟨by first | rfl | (simp [errW_none, errW_some] <;> rfl) | (simp only [← hji11]; first | rfl | (simp [errW_none, errW_some] <;> rfl)) | (simp [*, errW_none, errW_some] <;> rfl), by repeat (first | (with_reducible first | exact HB.out | apply below_alloc | apply pw_below_drewN | apply below_drew1) | exact HB.out)⟩
  · replace c3 := Bool.eq_false_iff.mpr c3
    subst c3
    have H1 : (some (0, 0, 1)) = some (r1, r2, r3) := by rw [if_neg (show ¬ (false = true) by decide)] at H; exact H
    clear H
    have H := H1
    clear H1
    simp only [Option.some.injEq, Prod.mk.injEq] at H
    obtain ⟨rfl, rfl, rfl⟩ := H
    go_enter Try.func27, Try.ntmps27
    go_wp2_with (first | (go_at_call 35; (with_reducible refine (voice_areSamples.calls _ _ l0 false _ ?side1 ?side2 A2.out).mono ?_); (case side1 => repeat (first | exact HR0.out | (with_reducible refine Kd.C_alloc ?_ _) | (with_reducible refine Kd.C_drewN ?_ _) | (with_reducible refine Kd.C_drew ?_))); (case side2 => exact HC0.out); rintro e w' ⟨rfl, ⟨nd, rfl⟩⟩; (try first | exact ⟨rfl, _, World.drewN_drewN _ _ _⟩ | exact ⟨rfl, _, Eq.trans (World.drewN_drewN _ _ _) (congrArg (World.drewN _) (Nat.add_assoc _ _ _))⟩)))
    repeat (go_quiet (first | (go_at_call 35; (with_reducible refine (voice_areSamples.calls _ _ l0 false _ ?side1 ?side2 A2.out).mono ?_); (case side1 => repeat (first | exact HR0.out | (with_reducible refine Kd.C_alloc ?_ _) | (with_reducible refine Kd.C_drewN ?_ _) | (with_reducible refine Kd.C_drew ?_))); (case side2 => exact HC0.out); rintro e w' ⟨rfl, ⟨nd, rfl⟩⟩; (try first | exact ⟨rfl, _, World.drewN_drewN _ _ _⟩ | exact ⟨rfl, _, Eq.trans (World.drewN_drewN _ _ _) (congrArg (World.drewN _) (Nat.add_assoc _ _ _))⟩))); try go_wp2_with (first | (go_at_call 35; (with_reducible refine (voice_areSamples.calls _ _ l0 false _ ?side1 ?side2 A2.out).mono ?_); (case side1 => repeat (first | exact HR0.out | (with_reducible refine Kd.C_alloc ?_ _) | (with_reducible refine Kd.C_drewN ?_ _) | (with_reducible refine Kd.C_drew ?_))); (case side2 => exact HC0.out); rintro e w' ⟨rfl, ⟨nd, rfl⟩⟩; (try first | exact ⟨rfl, _, World.drewN_drewN _ _ _⟩ | exact ⟨rfl, _, Eq.trans (World.drewN_drewN _ _ _) (congrArg (World.drewN _) (Nat.add_assoc _ _ _))⟩))))
    go_ret3
    exact ⟨by first | rfl | (simp [errW_none, errW_some] <;> rfl) | (simp [*, errW_none, errW_some] <;> rfl), by repeat (first | (with_reducible first | exact HB.out | apply below_alloc | apply pw_below_drewN | apply below_drew1) | exact HB.out)⟩

end Go.Proofs.Ytphkkdjinehhoaa.G
