/- Quote: the walk. Conditions: as each theorem says. -/
import Derived.Test.YtclgnefeankbgaaQ2
namespace Go.Proofs.Ytclgnefeankbgaa.M
open Go Go.RowKit Go.Proofs.YtclgnefeankbgaaW.PrintWords Go.Proofs.YtclgnefeankbgaaW.PrintLast Go.Proofs.YtclgnefeankbgaaW.PrintMore Hand
attribute [local go_sem] Oper.semAt_some max2_int min2_int max_two min_two max_three min_three max_four min_four
set_option linter.unusedVariables false
set_option linter.unusedSimpArgs false
/-- A row of bytes made anew. -/
def RU (w : World) (base : Nat) (v : Value) (l : List Int) : Prop := Kd.R (Kd.int .u8) 5 w base (fun _ => True) v l
theorem RU.nil (w : World) (base : Nat) : RU w base (.slice none 0 0) [] := Kd.R_nil _ _ _ _ _
theorem RU.call {w w' : World} {base : Nat} {v : Value} {l : List Int} (h : RU w base v l) (hb : Below w.heap.size w w') : RU w' base v l := Kd.R_below h hb
theorem RU.form {w : World} {base : Nat} {v : Value} {l : List Int} (h : RU w base v l) : ∃ (g : Option Nat) (c : Nat), v = .slice (g.map fun g => ⟨g, 0, none⟩) l.length c ∧ Kd.C (Kd.int .u8) w (g.map fun g => ⟨g, 0, none⟩) l.length l := by
  obtain ⟨inner, hin⟩ := Kd.R_own h
  obtain ⟨A, c, hv, hl, hC⟩ := Kd.R_reads h
  rcases hin.2 with ⟨hn, h0⟩ | ⟨g, cap, cur, hv2, hg, _⟩
  · refine ⟨none, 0, by rw [hn, h0]; rfl, ?_⟩
    have : l = [] := List.eq_nil_of_length_eq_zero h0
    rw [this]
    exact ⟨rfl, by decide, fun h => absurd h (by decide)⟩
  · rw [hv] at hv2
    have h3 := hv2
    injection h3 with e1 _ _
    subst e1
    exact ⟨some g, c, hv, hC⟩
/-- A literal row that has just been laid. -/
theorem litC (W : World) (fr : Nat × Nat) (l : List Int) (hl : l.length ≤ 1000) : Kd.C (Kd.int .u8) (W.alloc (.cells (l.map fun x => Value.int .u8 x).toArray 5 fr)) (some ⟨W.heap.size, 0, none⟩) l.length l := by
  refine ⟨rfl, by omega, fun _ => ⟨_, rfl, fun j p hj => ⟨[.int .u8 p], rfl, rfl, fun i u hi => ?_⟩⟩⟩
  cases i with
  | succ i => simp at hi
  | zero =>
    have e : u = .int .u8 p := by simpa using hi.symm
    subst e
    have ea : ((⟨W.heap.size, 0, none⟩ : Addr).add (j * (Kd.int .u8).sz + 0)) = ⟨W.heap.size, j, none⟩ := by
      have : j * (Kd.int .u8).sz + 0 = j := by show j * 1 + 0 = j; omega
      rw [this]
      unfold Addr.add
      split <;> simp_all
    rw [ea, World.cell?_alloc_mark]
    simp [hj]
theorem lit_spec (W : World) (fr : Nat × Nat) : Kd.C (Kd.int .u8) (W.alloc (.cells #[.int .u8 92, .int .u8 124, .int .u8 42, .int .u8 43, .int .u8 63, .int .u8 123, .int .u8 125, .int .u8 40, .int .u8 41, .int .u8 91, .int .u8 93, .int .u8 46, .int .u8 94, .int .u8 36] 5 fr)) (some ⟨W.heap.size, 0, none⟩) specL.length specL := litC W fr specL (by decide)
theorem spec.calls (b : Int) (W : World) (fr : Nat × Nat) : Calls Try.prog 45 #[.slice (some ⟨W.heap.size, 0, none⟩) 14 14, .int .u8 b] (W.alloc (.cells #[.int .u8 92, .int .u8 124, .int .u8 42, .int .u8 43, .int .u8 63, .int .u8 123, .int .u8 125, .int .u8 40, .int .u8 41, .int .u8 91, .int .u8 93, .int .u8 46, .int .u8 94, .int .u8 36] 5 fr)) fun e w' => e = .returned (.bool (isSpec b)) ∧ Below W.heap.size W w' := by
  have h := bcontains.calls _ 14 14 specL b _ (by decide) (lit_spec W fr) (by decide)
  rw [specL_has] at h
  refine h.mono ?_
  rintro e w' ⟨he, rfl⟩
  exact ⟨he, below_alloc (Below.refl _ _) _⟩
theorem lit2 (W : World) (a b : Int) : Kd.C (Kd.int .u8) (W.alloc (.cells #[.int .u8 a, .int .u8 b] 5)) (some ⟨W.heap.size, 0, none⟩) 2 [a, b] := litC W (0, 0) [a, b] (by simp)
theorem lit4 (W : World) (a b c d : Int) : Kd.C (Kd.int .u8) (W.alloc (.cells #[.int .u8 a, .int .u8 b, .int .u8 c, .int .u8 d] 5)) (some ⟨W.heap.size, 0, none⟩) 4 [a, b, c, d] := litC W (0, 0) [a, b, c, d] (by simp)
theorem lit4x (W : World) (a b c d c1 d1 : Int) (hc : c = c1) (hd : d = d1) : Kd.C (Kd.int .u8) (W.alloc (.cells #[.int .u8 a, .int .u8 b, .int .u8 c, .int .u8 d] 5)) (some ⟨W.heap.size, 0, none⟩) 4 [a, b, c1, d1] := by subst hc; subst hd; exact lit4 W _ _ _ _
theorem and15_all : ∀ n : Fin 256, Go.bits .and .u8 ((n.val : Nat) : Int) 15 = ((n.val : Nat) : Int) % 16 := by decide +kernel
def hexS : ByteArray := ⟨#[48, 49, 50, 51, 52, 53, 54, 55, 56, 57, 97, 98, 99, 100, 101, 102]⟩
theorem hexS_all : ∀ n : Fin 16, bt hexS ((n.val : Nat) : Int) = hexD ((n.val : Nat) : Int) := by decide +kernel
theorem hexS_at {d : Int} (h0 : 0 ≤ d) (h1 : d < 16) : bt hexS d = hexD d := by
  have := hexS_all ⟨d.toNat, by omega⟩
  simpa [Int.toNat_of_nonneg h0] using this
theorem hexT_at {d : Int} (h0 : 0 ≤ d) (h1 : d < 16) (h : d.toNat < hexS.size) : ((((⟨#[48, 49, 50, 51, 52, 53, 54, 55, 56, 57, 97, 98, 99, 100, 101, 102]⟩ : ByteArray)[d.toNat]'h).toNat : Nat) : Int) = hexD d := by
  rw [← hexS_at h0 h1]
  show (((hexS[d.toNat]'h).toNat : Nat) : Int) = bt hexS d
  unfold bt
  simp [h]
theorem slice_injQ {g g2 : Option Nat} {n n2 c c2 : Nat} (h : Value.slice (g.map fun g => (⟨g, 0, none⟩ : Addr)) n c = .slice (g2.map fun g => ⟨g, 0, none⟩) n2 c2) : g = g2 := by
  injection h with e1 _ _
  cases g <;> cases g2 <;> simp at e1 <;> simp_all
/-- What Quote has. -/
structure QW (W w : World) (v : Value) (out : List Int) : Prop where
  row : RU w W.heap.size v out
  hb : Below W.heap.size W w
theorem QW.call {W w w' : World} {v : Value} {out : List Int} (h : QW W w v out) (hb : Below w.heap.size w w') : QW W w' v out := ⟨h.row.call hb, h.hb.trans (hb.mono h.hb.size)⟩
theorem quote_more (b : Int) (r : List Int) : quoteL (b :: r) = quote1 b ++ quoteL r := by unfold quoteL; rw [List.flatMap_cons]
/-- What Quote answers where the quoted text is R. -/
def quoteV (R : List Int) : Value := if 200 < R.length then .tuple #[.string ⟨#[]⟩, .int .i64 3] else .tuple #[.string (strOfNums R), .int .i64 0]
set_option maxHeartbeats 16000000 in
set_option maxRecDepth 100000 in
theorem Quote.calls (A : Option Addr) (c : Nat) (bs : List Int) (W : World) (hb : BY W A bs) :
    Calls Try.prog 26 #[.slice A bs.length c] W fun e w' => e = .returned (quoteV (quoteL bs)) ∧ Below W.heap.size W w' := by
  have HBW := Aside0.mk hb
  obtain ⟨N, hN⟩ : ∃ N, bs.length = N := ⟨_, rfl⟩
  have HNN := Aside0.mk hN
  have hNl := hb.len
  obtain ⟨R, hR⟩ : ∃ R, quoteL bs = R := ⟨_, rfl⟩
  have HQ0 : Aside0 ([] ++ quoteL (bs.drop 0) = R) := ⟨by rw [List.drop_zero]; exact hR⟩
  have kc := fun (w : World) (C : Array Value) (n c : Nat) => Lib.run_convert_bytes_const (P := Try.prog) w 23 5 C n c Try.underlying23 Try.underlying5
  rw [hR]
  obtain ⟨rv, hrv⟩ : ∃ rv, quoteV R = rv := ⟨_, rfl⟩
  rw [hrv]
  have HRV := Aside0.mk hrv
  simp only [hN] at hNl ⊢
  clear hb hN hR hrv
  go_enter Try.func26, Try.ntmps26
  go_wp2
  go_loopg [4, 9] N (fun kq v4 v9 w' => ∃ (i : Nat) (g : Option Nat) (co L : Nat) (out : List Int), v4 = .slice (g.map fun g => ⟨g, 0, none⟩) L co ∧ v9 = .int .i64 (i : Int) ∧ i + kq = N ∧ L ≤ 4 * i ∧ Aside0 (out.length = L) ∧ Aside0 (out ++ quoteL (bs.drop i) = R) ∧ Aside0 (QW W w' (.slice (g.map fun g => ⟨g, 0, none⟩) L co) out))
  case atStart => exact ⟨0, none, 0, 0, [], rfl, rfl, by omega, Nat.le_refl _, ⟨rfl⟩, HQ0, ⟨⟨RU.nil _ _, Below.refl _ _⟩⟩⟩
  case round =>
    clear HQ0
    obtain ⟨i, g, co, L, out, rfl, rfl, hin, hL4, HL, HQ, HW⟩ := hrel
    cases gk with
    | zero =>
      have e1 : decide ((i : Int) < (N : Int)) = false := decide_eq_false (by omega)
      have e2 : decide (i < N) = false := decide_eq_false (by omega)
      have hq := HQ.out
      have hd : bs.drop i = [] := List.drop_of_length_le (by rw [HNN.out]; omega)
      rw [hd, show quoteL [] = [] from rfl, List.append_nil] at hq
      subst hq
      obtain ⟨g2, c2, hv2, hC2⟩ := HW.out.row.form
      have hgg := slice_injQ hv2
      subst hgg
      rw [HL.out] at hC2
      have kc9 : (convert 23 9 (.slice (g.map fun g => ⟨g, 0, none⟩) L co)).run Try.prog wr = .ok (.string (strOfNums out)) wr := Kd.C_string Try.underlying23 Try.underlying5 Try.underlying9 hC2
      have hrv := HRV.out
      unfold quoteV at hrv
      rw [HL.out] at hrv
      clear hd hv2 hC2 kc hL4 HQ hin HRV
      by_cases c2 : 200 < L
      · have f1 : decide ((200 : Int) < (L : Int)) = true := decide_eq_true (by omega)
        have f2 : decide (200 < L) = true := decide_eq_true c2
        rw [if_pos c2] at hrv
        subst hrv
        go_wp2
        (try simp only [Exit.inBlock, Exit.then])
        refine bodyPost_ret (results_tmp2 rfl _ _ _) rfl ?_
        exact ⟨rfl, HW.out.hb⟩
      · have f1 : decide ((200 : Int) < (L : Int)) = false := decide_eq_false (by omega)
        have f2 : decide (200 < L) = false := decide_eq_false c2
        rw [if_neg c2] at hrv
        have HRV := Aside0.mk hrv
        clear hrv
        go_wp2
        (try simp only [Exit.inBlock, Exit.then])
        refine bodyPost_ret (results_tmp2 rfl _ _ _) rfl ?_
        exact ⟨by rw [← HRV.out]; rfl, HW.out.hb⟩
    | succ q =>
      have hiN : i < N := by omega
      have e1 : decide ((i : Int) < (N : Int)) = true := decide_eq_true (by omega)
      have e2 : decide (i < N) = true := decide_eq_true hiN
      have i0 : (0 : Int) ≤ (i : Int) := by omega
      have i1 : (i : Int) < (N : Int) := by omega
      have wi : IntKind.i64.wrap ((i : Int) + 1) = (i : Int) + 1 := by rw [IntKind.wrap_i64]; omega
      have hil : i < bs.length := by rw [HNN.out]; exact hiN
      obtain ⟨ad, hA, y0⟩ := byteC (HBW.out.call HW.out.hb).C hil
      obtain ⟨b, hbb⟩ : ∃ y, bs.getD i 0 = y := ⟨_, rfl⟩
      rw [hbb] at y0
      have hbd := HBW.out.bd (bs.getD i 0) (by rw [List.getD_eq_getElem?_getD, List.getElem?_eq_getElem hil]; exact List.getElem_mem _)
      rw [hbb] at hbd
      have hd : bs.drop i = b :: bs.drop (i + 1) := by
        rw [List.drop_eq_getElem_cons hil, ← hbb, List.getD_eq_getElem?_getD, List.getElem?_eq_getElem hil]
        rfl
      have hq := HQ.out
      rw [hd, quote_more, ← List.append_assoc] at hq
      have hiq : i + 1 + q = N := by omega
      have hLm : (L + 4) * 1 ≤ 140737488355328 := by omega
      have HLM := Aside0.mk hLm
      have HBD := Aside0.mk hbd
      clear hd hbb hil HQ hLm hin
      subst hA
      by_cases c1 : b < 32 ∨ 126 < b
      · rw [quote1, if_pos c1] at hq
        have HQ2 := Aside0.mk hq
        have b1 : Byte b := HBD.out
        obtain ⟨nb, hnb⟩ := b1.fin
        have a15 : Go.bits .and .u8 b 15 = b % 16 := by rw [hnb]; exact and15_all nb
        have q0 : 0 ≤ b / 16 := by have := b1.1; omega
        have q1 : b / 16 < 16 := by have := b1.2; omega
        have q2 : 0 ≤ b % 16 := by omega
        have q3 : b % 16 < 16 := by omega
        have z0 : (b / 16).toNat < hexS.size := by show _ < 16; omega
        have z1 : (b % 16).toNat < hexS.size := by show _ < 16; omega
        have x0 := hexT_at q0 q1 z0
        have x1 := hexT_at q2 q3 z1
        have hbits : decide (b < 32) = true ∨ (decide (b < 32) = false ∧ decide (126 < b) = true) := by
          by_cases c3 : b < 32
          · exact .inl (decide_eq_true c3)
          · exact .inr ⟨decide_eq_false c3, decide_eq_true (by omega)⟩
        clear hnb nb hq c1 hbd b1
        rcases hbits with f1 | ⟨f1, f2⟩
        · go_wp2
          go_region_law (first
            | (refine Kd.R_append_rows_step (Kd.int .u8) (w0 := W) W.heap.size rfl (.tmp 24) (.tmp 31) 23 5 (.int .u8 0) 1 rfl Try.underlying23 u8_info rfl (by decide) (by omega) (.slice (g.map fun g => ⟨g, 0, none⟩) L co) out [92, 120, hexD (b / 16), hexD (b % 16)] _ 4 4 (fun _ => True) (fun _ => False) rfl rfl (RU.call HW.out.row ?aB) ?aC (fun _ _ h => h) (fun _ h => h.elim) (fun _ _ => trivial) ?aH ?aS ?aL ?_; (case aB => exact below_drew1 (below_alloc (Below.refl _ _) _)); (case aC => exact Kd.C_drew (lit4x wr 92 120 _ _ _ _ x0 x1)); (case aH => exact (HW.out.call (below_drew1 (below_alloc (Below.refl _ _) _))).hb); (case aS => exact (HW.out.call (below_drew1 (below_alloc (Below.refl _ _) _))).hb.size); (case aL => rw [HL.out]; have := HLM.out; omega); intro v6 w6 ho hb _ _; obtain ⟨g9, c9, hv9, _⟩ := RU.form ho; rw [List.length_append, HL.out] at hv9; have hv10 : v6 = .slice (g9.map fun g => ⟨g, 0, none⟩) (L + 4) c9 := hv9; subst hv10; have HW6 := Aside0.mk (QW.mk ho hb); clear ho hb hv9))
          all_goals (
            go_wp2
            go_roundg q
            case measure => omega
            case rel => exact ⟨i + 1, g9, c9, L + 4, out ++ [92, 120, hexD (b / 16), hexD (b % 16)], rfl, rfl, hiq, by omega, ⟨by rw [List.length_append, HL.out]; rfl⟩, HQ2, HW6⟩)
        · go_wp2
          go_region_law (first
            | (refine Kd.R_append_rows_step (Kd.int .u8) (w0 := W) W.heap.size rfl (.tmp 24) (.tmp 31) 23 5 (.int .u8 0) 1 rfl Try.underlying23 u8_info rfl (by decide) (by omega) (.slice (g.map fun g => ⟨g, 0, none⟩) L co) out [92, 120, hexD (b / 16), hexD (b % 16)] _ 4 4 (fun _ => True) (fun _ => False) rfl rfl (RU.call HW.out.row ?aB) ?aC (fun _ _ h => h) (fun _ h => h.elim) (fun _ _ => trivial) ?aH ?aS ?aL ?_; (case aB => exact below_drew1 (below_alloc (Below.refl _ _) _)); (case aC => exact Kd.C_drew (lit4x wr 92 120 _ _ _ _ x0 x1)); (case aH => exact (HW.out.call (below_drew1 (below_alloc (Below.refl _ _) _))).hb); (case aS => exact (HW.out.call (below_drew1 (below_alloc (Below.refl _ _) _))).hb.size); (case aL => rw [HL.out]; have := HLM.out; omega); intro v6 w6 ho hb _ _; obtain ⟨g9, c9, hv9, _⟩ := RU.form ho; rw [List.length_append, HL.out] at hv9; have hv10 : v6 = .slice (g9.map fun g => ⟨g, 0, none⟩) (L + 4) c9 := hv9; subst hv10; have HW6 := Aside0.mk (QW.mk ho hb); clear ho hb hv9))
          all_goals (
            go_wp2
            go_roundg q
            case measure => omega
            case rel => exact ⟨i + 1, g9, c9, L + 4, out ++ [92, 120, hexD (b / 16), hexD (b % 16)], rfl, rfl, hiq, by omega, ⟨by rw [List.length_append, HL.out]; rfl⟩, HQ2, HW6⟩)
      · have f1 : decide (b < 32) = false := decide_eq_false (by omega)
        have f2 : decide (126 < b) = false := decide_eq_false (by omega)
        rw [quote1, if_neg c1] at hq
        have hbc := fun (w : World) (fr : Nat × Nat) => spec.calls b w fr
        cases hsp : isSpec b with
        | true =>
          rw [if_pos hsp] at hq
          simp only [hsp] at hbc
          have HQ2 := Aside0.mk hq
          have HBC := Aside0.mk hbc
          clear hq hbc hsp c1 hbd
          go_wp2_with (first
            | ((with_reducible refine gate_builtin (b := .append) (xs := #[.tmp 38, .tmp 40]) rfl ?_); at_builtin; refine Kd.R_append_rows (Kd.int .u8) (w0 := W) W.heap.size rfl (.tmp 38) (.tmp 40) 23 5 (.int .u8 0) 1 rfl Try.underlying23 u8_info rfl (by decide) (by omega) (.slice (g.map fun g => ⟨g, 0, none⟩) L co) out [92, b] _ 2 2 (fun _ => True) (fun _ => False) rfl rfl (RU.call HW2.out.row (below_alloc (Below.refl _ _) _)) (lit2 _ 92 b) (fun _ _ h => h) (fun _ h => h.elim) (fun _ _ => trivial) (HW2.out.call (below_alloc (Below.refl _ _) _)).hb ?aS ?aL ?_; (case aS => exact (HW2.out.call (below_alloc (Below.refl _ _) _)).hb.size); (case aL => rw [HL.out]; have := HLM.out; omega); intro v6 w6 ho hb _ _; obtain ⟨g9, c9, hv9, _⟩ := RU.form ho; rw [List.length_append, HL.out] at hv9; have hv10 : v6 = .slice (g9.map fun g => ⟨g, 0, none⟩) (L + 2) c9 := hv9; subst hv10; have HW6 := Aside0.mk (QW.mk ho hb); clear ho hb hv9)
            | (go_at_call 45; (with_reducible refine (HBC.out _ _).mono ?_); rintro e w2 ⟨rfl, hb⟩; have HW2 := Aside0.mk (HW.out.call hb); clear hb; clear kc))
          go_roundg q
          case measure => omega
          case rel => exact ⟨i + 1, g9, c9, L + 2, out ++ [92, b], rfl, rfl, hiq, by omega, ⟨by rw [List.length_append, HL.out]; rfl⟩, HQ2, HW6⟩
        | false =>
          rw [hsp, if_neg (by decide)] at hq
          simp only [hsp] at hbc
          have HQ2 := Aside0.mk hq
          have HBC := Aside0.mk hbc
          clear hq hbc hsp c1 hbd
          go_wp2_with (first
            | ((with_reducible refine gate_builtin (b := .append) (xs := #[.tmp 13, .tmp 15]) rfl ?_); at_builtin; refine Kd.R_append (Kd.int .u8) (w0 := W) W.heap.size rfl (.tmp 13) (.tmp 15) 23 5 (.int .u8 0) 1 rfl Try.underlying23 u8_info rfl (by decide) (by omega) (.slice (g.map fun g => ⟨g, 0, none⟩) L co) out b [.int .u8 b] (fun _ => True) (fun _ => False) rfl rfl rfl (fun _ hk => hk.elim) (fun _ _ => trivial) HW2.out.row HW2.out.hb HW2.out.hb.size ?aL ?_; (case aL => rw [HL.out]; have := HLM.out; omega); intro v6 w6 ho hb _ _; obtain ⟨g9, c9, hv9, _⟩ := RU.form ho; rw [List.length_append, HL.out] at hv9; have hv10 : v6 = .slice (g9.map fun g => ⟨g, 0, none⟩) (L + 1) c9 := hv9; subst hv10; have HW6 := Aside0.mk (QW.mk ho hb); clear ho hb hv9)
            | (go_at_call 45; (with_reducible refine (HBC.out _ _).mono ?_); rintro e w2 ⟨rfl, hb⟩; have HW2 := Aside0.mk (HW.out.call hb); clear hb; clear kc))
          go_roundg q
          case measure => omega
          case rel => exact ⟨i + 1, g9, c9, L + 1, out ++ [b], rfl, rfl, hiq, by omega, ⟨by rw [List.length_append, HL.out]; rfl⟩, HQ2, HW6⟩
end Go.Proofs.Ytclgnefeankbgaa.M
