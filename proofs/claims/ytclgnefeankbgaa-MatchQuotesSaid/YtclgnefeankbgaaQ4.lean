/- The reference's Quote: the walk. Conditions: as each theorem says. -/
import Derived.Test.YtclgnefeankbgaaQ3
namespace Go.Proofs.Ytclgnefeankbgaa.M
open Go Go.RowKit Go.Proofs.YtclgnefeankbgaaW.PrintWords Go.Proofs.YtclgnefeankbgaaW.PrintLast Go.Proofs.YtclgnefeankbgaaW.PrintMore Hand
attribute [local go_sem] Oper.semAt_some max2_int min2_int max_two min_two max_three min_three max_four min_four
set_option linter.unusedVariables false
set_option linter.unusedSimpArgs false
theorem div16_all : ∀ n : Fin 256, IntKind.u8.wrap (((n.val : Nat) : Int).tdiv 16) = ((n.val : Nat) : Int) / 16 ∧ ((n.val : Nat) : Int).tmod 16 = ((n.val : Nat) : Int) % 16 := by decide +kernel
theorem quoteV_long {R a b : List Int} {n : Nat} (h : a ++ b = R) (ha : a.length = n) (hn : 200 < n) : quoteV R = .tuple #[.string ⟨#[]⟩, .int .i64 3] := by
  unfold quoteV
  rw [if_pos (by rw [← h, List.length_append]; omega)]
set_option maxHeartbeats 16000000 in
set_option maxRecDepth 100000 in
theorem rQuote.calls (A : Option Addr) (c : Nat) (bs : List Int) (W : World) (hb : BY W A bs) :
    Calls Try.prog 27 #[.slice A bs.length c] W fun e w' => e = .returned (quoteV (quoteL bs)) ∧ Below W.heap.size W w' := by
  have HBW := Aside0.mk hb
  obtain ⟨N, hN⟩ : ∃ N, bs.length = N := ⟨_, rfl⟩
  have HNN := Aside0.mk hN
  have hNl := hb.len
  obtain ⟨R, hR⟩ : ∃ R, quoteL bs = R := ⟨_, rfl⟩
  have HQ0 : Aside0 ([] ++ quoteL (bs.drop 0) = R) := ⟨by rw [List.drop_zero]; exact hR⟩
  have kc := fun (w : World) (C : Array Value) (n c : Nat) => Lib.run_convert_bytes_const (P := Try.prog) w 23 5 C n c Try.underlying23 Try.underlying5
  rw [hR]
  obtain ⟨rv, hrv⟩ : ∃ rv, quoteV R = rv := ⟨_, rfl⟩
  rw [hrv]
  have HRV := Aside0.mk hrv
  simp only [hN] at hNl ⊢
  clear hb hN hR hrv
  go_enter Try.func27, Try.ntmps27
  go_wp2
  go_loopg [4, 5] N (fun kq v4 v9 w' => ∃ (i : Nat) (g : Option Nat) (co L : Nat) (out : List Int), v4 = .slice (g.map fun g => ⟨g, 0, none⟩) L co ∧ v9 = .int .i64 (i : Int) ∧ i + kq = N ∧ L ≤ 200 ∧ Aside0 (out.length = L) ∧ Aside0 (out ++ quoteL (bs.drop i) = R) ∧ Aside0 (QW W w' (.slice (g.map fun g => ⟨g, 0, none⟩) L co) out))
  case atStart => exact ⟨0, none, 0, 0, [], rfl, rfl, by omega, by omega, ⟨rfl⟩, HQ0, ⟨⟨RU.nil _ _, Below.refl _ _⟩⟩⟩
  case round =>
    clear HQ0
    obtain ⟨i, g, co, L, out, rfl, rfl, hin, hL4, HL, HQ, HW⟩ := hrel
    cases gk with
    | zero =>
      have e1 : decide ((i : Int) < (N : Int)) = false := decide_eq_false (by omega)
      have e2 : decide (i < N) = false := decide_eq_false (by omega)
      have hq := HQ.out
      have hd : bs.drop i = [] := List.drop_of_length_le (by rw [HNN.out]; omega)
      rw [hd, show quoteL [] = [] from rfl, List.append_nil] at hq
      subst hq
      obtain ⟨g2, c2, hv2, hC2⟩ := HW.out.row.form
      have hgg := slice_injQ hv2
      subst hgg
      rw [HL.out] at hC2
      have kc9 : (convert 23 9 (.slice (g.map fun g => ⟨g, 0, none⟩) L co)).run Try.prog wr = .ok (.string (strOfNums out)) wr := Kd.C_string Try.underlying23 Try.underlying5 Try.underlying9 hC2
      have hrv := HRV.out
      unfold quoteV at hrv
      rw [HL.out] at hrv
      clear hd hv2 hC2 kc HQ hin HRV
      rw [if_neg (by omega)] at hrv
      have HRV := Aside0.mk hrv
      clear hrv
      go_wp2
      (try simp only [Exit.inBlock, Exit.then])
      refine bodyPost_ret (results_tmp2 rfl _ _ _) rfl ?_
      exact ⟨by rw [← HRV.out]; rfl, HW.out.hb⟩
    | succ q =>
      have hiN : i < N := by omega
      have e1 : decide ((i : Int) < (N : Int)) = true := decide_eq_true (by omega)
      have e2 : decide (i < N) = true := decide_eq_true hiN
      have i0 : (0 : Int) ≤ (i : Int) := by omega
      have i1 : (i : Int) < (N : Int) := by omega
      have wi : IntKind.i64.wrap ((i : Int) + 1) = (i : Int) + 1 := by rw [IntKind.wrap_i64]; omega
      have hil : i < bs.length := by rw [HNN.out]; exact hiN
      obtain ⟨ad, hA, y0⟩ := byteC (HBW.out.call HW.out.hb).C hil
      obtain ⟨b, hbb⟩ : ∃ y, bs.getD i 0 = y := ⟨_, rfl⟩
      rw [hbb] at y0
      have hbd := HBW.out.bd (bs.getD i 0) (by rw [List.getD_eq_getElem?_getD, List.getElem?_eq_getElem hil]; exact List.getElem_mem _)
      rw [hbb] at hbd
      have hd : bs.drop i = b :: bs.drop (i + 1) := by
        rw [List.drop_eq_getElem_cons hil, ← hbb, List.getD_eq_getElem?_getD, List.getElem?_eq_getElem hil]
        rfl
      have hq := HQ.out
      rw [hd, quote_more, ← List.append_assoc] at hq
      have hiq : i + 1 + q = N := by omega
      have hLm : (L + 4) * 1 ≤ 140737488355328 := by omega
      have HLM := Aside0.mk hLm
      have HBD := Aside0.mk hbd
      clear hd hbb hil HQ hLm hin
      subst hA
      by_cases c1 : b < 32 ∨ 126 < b
      · rw [quote1, if_pos c1] at hq
        have HQ2 := Aside0.mk hq
        have b1 : Byte b := HBD.out
        obtain ⟨nb, hnb⟩ := b1.fin
        have a15 : b.tmod 16 = b % 16 := by rw [hnb]; exact (div16_all nb).2
        have a16 : IntKind.u8.wrap (b.tdiv 16) = b / 16 := by rw [hnb]; exact (div16_all nb).1
        have q0 : 0 ≤ b / 16 := by have := b1.1; omega
        have q1 : b / 16 < 16 := by have := b1.2; omega
        have q2 : 0 ≤ b % 16 := by omega
        have q3 : b % 16 < 16 := by omega
        have z0 : (b / 16).toNat < hexS.size := by show _ < 16; omega
        have z1 : (b % 16).toNat < hexS.size := by show _ < 16; omega
        have x0 := hexT_at q0 q1 z0
        have x1 := hexT_at q2 q3 z1
        have hbits : decide (b < 32) = true ∨ (decide (b < 32) = false ∧ decide (126 < b) = true) := by
          by_cases c3 : b < 32
          · exact .inl (decide_eq_true c3)
          · exact .inr ⟨decide_eq_false c3, decide_eq_true (by omega)⟩
        clear hnb nb hq c1 hbd b1
        rcases hbits with f1 | ⟨f1, f2⟩
        · skip
          by_cases c9 : 200 < L + 4
          · have j1 : decide ((200 : Int) < (L : Int) + 4) = true := decide_eq_true (by omega)
            have j2 : decide (200 < L + 4) = true := decide_eq_true c9
            have hrv := HRV.out
            rw [quoteV_long HQ2.out (n := L + 4) (by rw [List.length_append, HL.out]; rfl) c9] at hrv
            subst hrv
            clear HRV HQ2
            go_wp2
            go_region_law (first
              | (refine Kd.R_append_rows_step (Kd.int .u8) (w0 := W) W.heap.size rfl (.tmp 28) (.tmp 35) 23 5 (.int .u8 0) 1 rfl Try.underlying23 u8_info rfl (by decide) (by omega) (.slice (g.map fun g => ⟨g, 0, none⟩) L co) out [92, 120, hexD (b / 16), hexD (b % 16)] _ 4 4 (fun _ => True) (fun _ => False) rfl rfl (RU.call HW.out.row ?aB) ?aC (fun _ _ h => h) (fun _ h => h.elim) (fun _ _ => trivial) ?aH ?aS ?aL ?_; (case aB => exact below_drew1 (below_alloc (Below.refl _ _) _)); (case aC => exact Kd.C_drew (lit4x wr 92 120 _ _ _ _ x0 x1)); (case aH => exact (HW.out.call (below_drew1 (below_alloc (Below.refl _ _) _))).hb); (case aS => exact (HW.out.call (below_drew1 (below_alloc (Below.refl _ _) _))).hb.size); (case aL => rw [HL.out]; have := HLM.out; omega); intro v6 w6 ho hb _ _; obtain ⟨g9, c9', hv9, _⟩ := RU.form ho; rw [List.length_append, HL.out] at hv9; have hv10 : v6 = .slice (g9.map fun g => ⟨g, 0, none⟩) (L + 4) c9' := hv9; subst hv10; have HW6 := Aside0.mk (QW.mk ho hb); clear ho hb hv9))
            all_goals (
              go_wp2
              (try simp only [Exit.inBlock, Exit.then])
              refine bodyPost_ret (results_tmp2 rfl _ _ _) rfl ?_
              exact ⟨rfl, HW6.out.hb⟩)
          · have j1 : decide ((200 : Int) < (L : Int) + 4) = false := decide_eq_false (by omega)
            have j2 : decide (200 < L + 4) = false := decide_eq_false c9
            go_wp2
            go_region_law (first
              | (refine Kd.R_append_rows_step (Kd.int .u8) (w0 := W) W.heap.size rfl (.tmp 28) (.tmp 35) 23 5 (.int .u8 0) 1 rfl Try.underlying23 u8_info rfl (by decide) (by omega) (.slice (g.map fun g => ⟨g, 0, none⟩) L co) out [92, 120, hexD (b / 16), hexD (b % 16)] _ 4 4 (fun _ => True) (fun _ => False) rfl rfl (RU.call HW.out.row ?aB) ?aC (fun _ _ h => h) (fun _ h => h.elim) (fun _ _ => trivial) ?aH ?aS ?aL ?_; (case aB => exact below_drew1 (below_alloc (Below.refl _ _) _)); (case aC => exact Kd.C_drew (lit4x wr 92 120 _ _ _ _ x0 x1)); (case aH => exact (HW.out.call (below_drew1 (below_alloc (Below.refl _ _) _))).hb); (case aS => exact (HW.out.call (below_drew1 (below_alloc (Below.refl _ _) _))).hb.size); (case aL => rw [HL.out]; have := HLM.out; omega); intro v6 w6 ho hb _ _; obtain ⟨g9, c9', hv9, _⟩ := RU.form ho; rw [List.length_append, HL.out] at hv9; have hv10 : v6 = .slice (g9.map fun g => ⟨g, 0, none⟩) (L + 4) c9' := hv9; subst hv10; have HW6 := Aside0.mk (QW.mk ho hb); clear ho hb hv9))
            all_goals (
              go_wp2
              go_roundg q
              case measure => omega
              case rel => exact ⟨i + 1, g9, c9', L + 4, out ++ [92, 120, hexD (b / 16), hexD (b % 16)], rfl, rfl, hiq, by omega, ⟨by rw [List.length_append, HL.out]; rfl⟩, HQ2, HW6⟩)
        · skip
          by_cases c9 : 200 < L + 4
          · have j1 : decide ((200 : Int) < (L : Int) + 4) = true := decide_eq_true (by omega)
            have j2 : decide (200 < L + 4) = true := decide_eq_true c9
            have hrv := HRV.out
            rw [quoteV_long HQ2.out (n := L + 4) (by rw [List.length_append, HL.out]; rfl) c9] at hrv
            subst hrv
            clear HRV HQ2
            go_wp2
            go_region_law (first
              | (refine Kd.R_append_rows_step (Kd.int .u8) (w0 := W) W.heap.size rfl (.tmp 28) (.tmp 35) 23 5 (.int .u8 0) 1 rfl Try.underlying23 u8_info rfl (by decide) (by omega) (.slice (g.map fun g => ⟨g, 0, none⟩) L co) out [92, 120, hexD (b / 16), hexD (b % 16)] _ 4 4 (fun _ => True) (fun _ => False) rfl rfl (RU.call HW.out.row ?aB) ?aC (fun _ _ h => h) (fun _ h => h.elim) (fun _ _ => trivial) ?aH ?aS ?aL ?_; (case aB => exact below_drew1 (below_alloc (Below.refl _ _) _)); (case aC => exact Kd.C_drew (lit4x wr 92 120 _ _ _ _ x0 x1)); (case aH => exact (HW.out.call (below_drew1 (below_alloc (Below.refl _ _) _))).hb); (case aS => exact (HW.out.call (below_drew1 (below_alloc (Below.refl _ _) _))).hb.size); (case aL => rw [HL.out]; have := HLM.out; omega); intro v6 w6 ho hb _ _; obtain ⟨g9, c9', hv9, _⟩ := RU.form ho; rw [List.length_append, HL.out] at hv9; have hv10 : v6 = .slice (g9.map fun g => ⟨g, 0, none⟩) (L + 4) c9' := hv9; subst hv10; have HW6 := Aside0.mk (QW.mk ho hb); clear ho hb hv9))
            all_goals (
              go_wp2
              (try simp only [Exit.inBlock, Exit.then])
              refine bodyPost_ret (results_tmp2 rfl _ _ _) rfl ?_
              exact ⟨rfl, HW6.out.hb⟩)
          · have j1 : decide ((200 : Int) < (L : Int) + 4) = false := decide_eq_false (by omega)
            have j2 : decide (200 < L + 4) = false := decide_eq_false c9
            go_wp2
            go_region_law (first
              | (refine Kd.R_append_rows_step (Kd.int .u8) (w0 := W) W.heap.size rfl (.tmp 28) (.tmp 35) 23 5 (.int .u8 0) 1 rfl Try.underlying23 u8_info rfl (by decide) (by omega) (.slice (g.map fun g => ⟨g, 0, none⟩) L co) out [92, 120, hexD (b / 16), hexD (b % 16)] _ 4 4 (fun _ => True) (fun _ => False) rfl rfl (RU.call HW.out.row ?aB) ?aC (fun _ _ h => h) (fun _ h => h.elim) (fun _ _ => trivial) ?aH ?aS ?aL ?_; (case aB => exact below_drew1 (below_alloc (Below.refl _ _) _)); (case aC => exact Kd.C_drew (lit4x wr 92 120 _ _ _ _ x0 x1)); (case aH => exact (HW.out.call (below_drew1 (below_alloc (Below.refl _ _) _))).hb); (case aS => exact (HW.out.call (below_drew1 (below_alloc (Below.refl _ _) _))).hb.size); (case aL => rw [HL.out]; have := HLM.out; omega); intro v6 w6 ho hb _ _; obtain ⟨g9, c9', hv9, _⟩ := RU.form ho; rw [List.length_append, HL.out] at hv9; have hv10 : v6 = .slice (g9.map fun g => ⟨g, 0, none⟩) (L + 4) c9' := hv9; subst hv10; have HW6 := Aside0.mk (QW.mk ho hb); clear ho hb hv9))
            all_goals (
              go_wp2
              go_roundg q
              case measure => omega
              case rel => exact ⟨i + 1, g9, c9', L + 4, out ++ [92, 120, hexD (b / 16), hexD (b % 16)], rfl, rfl, hiq, by omega, ⟨by rw [List.length_append, HL.out]; rfl⟩, HQ2, HW6⟩)
      · have f1 : decide (b < 32) = false := decide_eq_false (by omega)
        have f2 : decide (126 < b) = false := decide_eq_false (by omega)
        rw [quote1, if_neg c1] at hq
        have hbc := fun (w : World) => isSpecial.calls b w
        cases hsp : isSpec b with
        | true =>
          rw [if_pos hsp] at hq
          simp only [hsp] at hbc
          have HQ2 := Aside0.mk hq
          have HBC := Aside0.mk hbc
          clear hq hbc hsp c1 hbd
          by_cases c9 : 200 < L + 2
          · have j1 : decide ((200 : Int) < (L : Int) + 2) = true := decide_eq_true (by omega)
            have j2 : decide (200 < L + 2) = true := decide_eq_true c9
            have hrv := HRV.out
            rw [quoteV_long HQ2.out (n := L + 2) (by rw [List.length_append, HL.out]; rfl) c9] at hrv
            subst hrv
            clear HRV HQ2
            go_wp2_with (first
              | ((with_reducible refine gate_builtin (b := .append) (xs := #[.tmp 40, .tmp 42]) rfl ?_); at_builtin; refine Kd.R_append_rows (Kd.int .u8) (w0 := W) W.heap.size rfl (.tmp 40) (.tmp 42) 23 5 (.int .u8 0) 1 rfl Try.underlying23 u8_info rfl (by decide) (by omega) (.slice (g.map fun g => ⟨g, 0, none⟩) L co) out [92, b] _ 2 2 (fun _ => True) (fun _ => False) rfl rfl (RU.call HW.out.row (below_alloc (Below.refl _ _) _)) (lit2 _ 92 b) (fun _ _ h => h) (fun _ h => h.elim) (fun _ _ => trivial) (HW.out.call (below_alloc (Below.refl _ _) _)).hb ?aS ?aL ?_; (case aS => exact (HW.out.call (below_alloc (Below.refl _ _) _)).hb.size); (case aL => rw [HL.out]; have := HLM.out; omega); intro v6 w6 ho hb _ _; obtain ⟨g9, c9', hv9, _⟩ := RU.form ho; rw [List.length_append, HL.out] at hv9; have hv10 : v6 = .slice (g9.map fun g => ⟨g, 0, none⟩) (L + 2) c9' := hv9; subst hv10; have HW6 := Aside0.mk (QW.mk ho hb); clear ho hb hv9)
              | (go_at_call 46; (with_reducible refine (HBC.out _).mono ?_); rintro e w2 ⟨rfl, rfl⟩; clear kc))
            (try simp only [Exit.inBlock, Exit.then])
            refine bodyPost_ret (results_tmp2 rfl _ _ _) rfl ?_
            exact ⟨rfl, HW6.out.hb⟩
          · have j1 : decide ((200 : Int) < (L : Int) + 2) = false := decide_eq_false (by omega)
            have j2 : decide (200 < L + 2) = false := decide_eq_false c9
            go_wp2_with (first
              | ((with_reducible refine gate_builtin (b := .append) (xs := #[.tmp 40, .tmp 42]) rfl ?_); at_builtin; refine Kd.R_append_rows (Kd.int .u8) (w0 := W) W.heap.size rfl (.tmp 40) (.tmp 42) 23 5 (.int .u8 0) 1 rfl Try.underlying23 u8_info rfl (by decide) (by omega) (.slice (g.map fun g => ⟨g, 0, none⟩) L co) out [92, b] _ 2 2 (fun _ => True) (fun _ => False) rfl rfl (RU.call HW.out.row (below_alloc (Below.refl _ _) _)) (lit2 _ 92 b) (fun _ _ h => h) (fun _ h => h.elim) (fun _ _ => trivial) (HW.out.call (below_alloc (Below.refl _ _) _)).hb ?aS ?aL ?_; (case aS => exact (HW.out.call (below_alloc (Below.refl _ _) _)).hb.size); (case aL => rw [HL.out]; have := HLM.out; omega); intro v6 w6 ho hb _ _; obtain ⟨g9, c9', hv9, _⟩ := RU.form ho; rw [List.length_append, HL.out] at hv9; have hv10 : v6 = .slice (g9.map fun g => ⟨g, 0, none⟩) (L + 2) c9' := hv9; subst hv10; have HW6 := Aside0.mk (QW.mk ho hb); clear ho hb hv9)
              | (go_at_call 46; (with_reducible refine (HBC.out _).mono ?_); rintro e w2 ⟨rfl, rfl⟩; clear kc))
            go_roundg q
            case measure => omega
            case rel => exact ⟨i + 1, g9, c9', L + 2, out ++ [92, b], rfl, rfl, hiq, by omega, ⟨by rw [List.length_append, HL.out]; rfl⟩, HQ2, HW6⟩
        | false =>
          rw [hsp, if_neg (by decide)] at hq
          simp only [hsp] at hbc
          have HQ2 := Aside0.mk hq
          have HBC := Aside0.mk hbc
          clear hq hbc hsp c1 hbd
          by_cases c9 : 200 < L + 1
          · have j1 : decide ((200 : Int) < (L : Int) + 1) = true := decide_eq_true (by omega)
            have j2 : decide (200 < L + 1) = true := decide_eq_true c9
            have hrv := HRV.out
            rw [quoteV_long HQ2.out (n := L + 1) (by rw [List.length_append, HL.out]; rfl) c9] at hrv
            subst hrv
            clear HRV HQ2
            go_wp2_with (first
              | ((with_reducible refine gate_builtin (b := .append) (xs := #[.tmp 17, .tmp 19]) rfl ?_); at_builtin; refine Kd.R_append (Kd.int .u8) (w0 := W) W.heap.size rfl (.tmp 17) (.tmp 19) 23 5 (.int .u8 0) 1 rfl Try.underlying23 u8_info rfl (by decide) (by omega) (.slice (g.map fun g => ⟨g, 0, none⟩) L co) out b [.int .u8 b] (fun _ => True) (fun _ => False) rfl rfl rfl (fun _ hk => hk.elim) (fun _ _ => trivial) HW.out.row HW.out.hb HW.out.hb.size ?aL ?_; (case aL => rw [HL.out]; have := HLM.out; omega); intro v6 w6 ho hb _ _; obtain ⟨g9, c9', hv9, _⟩ := RU.form ho; rw [List.length_append, HL.out] at hv9; have hv10 : v6 = .slice (g9.map fun g => ⟨g, 0, none⟩) (L + 1) c9' := hv9; subst hv10; have HW6 := Aside0.mk (QW.mk ho hb); clear ho hb hv9)
              | (go_at_call 46; (with_reducible refine (HBC.out _).mono ?_); rintro e w2 ⟨rfl, rfl⟩; clear kc))
            (try simp only [Exit.inBlock, Exit.then])
            refine bodyPost_ret (results_tmp2 rfl _ _ _) rfl ?_
            exact ⟨rfl, HW6.out.hb⟩
          · have j1 : decide ((200 : Int) < (L : Int) + 1) = false := decide_eq_false (by omega)
            have j2 : decide (200 < L + 1) = false := decide_eq_false c9
            go_wp2_with (first
              | ((with_reducible refine gate_builtin (b := .append) (xs := #[.tmp 17, .tmp 19]) rfl ?_); at_builtin; refine Kd.R_append (Kd.int .u8) (w0 := W) W.heap.size rfl (.tmp 17) (.tmp 19) 23 5 (.int .u8 0) 1 rfl Try.underlying23 u8_info rfl (by decide) (by omega) (.slice (g.map fun g => ⟨g, 0, none⟩) L co) out b [.int .u8 b] (fun _ => True) (fun _ => False) rfl rfl rfl (fun _ hk => hk.elim) (fun _ _ => trivial) HW.out.row HW.out.hb HW.out.hb.size ?aL ?_; (case aL => rw [HL.out]; have := HLM.out; omega); intro v6 w6 ho hb _ _; obtain ⟨g9, c9', hv9, _⟩ := RU.form ho; rw [List.length_append, HL.out] at hv9; have hv10 : v6 = .slice (g9.map fun g => ⟨g, 0, none⟩) (L + 1) c9' := hv9; subst hv10; have HW6 := Aside0.mk (QW.mk ho hb); clear ho hb hv9)
              | (go_at_call 46; (with_reducible refine (HBC.out _).mono ?_); rintro e w2 ⟨rfl, rfl⟩; clear kc))
            go_roundg q
            case measure => omega
            case rel => exact ⟨i + 1, g9, c9', L + 1, out ++ [b], rfl, rfl, hiq, by omega, ⟨by rw [List.length_append, HL.out]; rfl⟩, HQ2, HW6⟩
end Go.Proofs.Ytclgnefeankbgaa.M
