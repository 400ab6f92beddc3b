/- The statements BitsDumps and BitsTexts, walked: whatever the input, true. Conditions: the library's variable MaxLen holds a number. -/
import Derived.Test.YtlilcbpcjmcfbaaDoorE12
import Derived.Test.YtlilcbpcjmcfbaaDoorDx2
import Derived.Test.YtlilcbpcjmcfbaaDoorDx3
import Derived.Test.YtlilcbpcjmcfbaaDoorDx4
import Derived.Test.YtlilcbpcjmcfbaaDoorDx5
namespace Go.Proofs.YtlilcbpcjmcfbaaDoor.Pure
open Go.RowKit Go.Shelf Go.Proofs.YtlilcbpcjmcfbaaDoor.D Go.Proofs.YtlilcbpcjmcfbaaDoor.Hand Go.Proofs.YtlilcbpcjmcfbaaDoorW.PrintWords Go.Proofs.YtlilcbpcjmcfbaaDoorW.PrintLast Go.Proofs.YtlilcbpcjmcfbaaDoorW.PrintMore
attribute [local go_sem] Oper.semAt_some max2_int min2_int max_two min_two max_three min_three max_four min_four
set_option linter.unusedVariables false
theorem known_k : wireglasslaw01_known.f 30 = some true := by
  unfold wireglasslaw01_known.f
  decide +kernel
theorem knownD.calls (W : World) : Calls Tryd.prog 5 #[] W fun e w' => e = .returned (.bool true) ∧ Below W.heap.size W w' := wireglasslaw01_known.calls 30 true W known_k
theorem dumpB1 (A : Option Addr) (n c : Nat) (b : List Int) (W : World) (hn : b.length = n) (hC : Kd.C (Kd.int .u8) W A n b) (hc : n ≤ c) (hb : isB b) (hl : n ≤ 1600) (q : ByteArray) (hq : strOfNums (dumpN b) = q) :
    Calls Tryd.prog 6 #[.slice A n c] W fun e w' => e = .returned (.tuple #[.string q, .int .i64 0]) ∧ Below W.heap.size W w' := by
  subst hn hq
  exact bdump.calls A c b W hC hc hb hl
theorem dumpR1 (A : Option Addr) (n c : Nat) (b : List Int) (W : World) (hn : b.length = n) (hC : Kd.C (Kd.int .u8) W A n b) (hc : n ≤ c) (hb : isB b) (hl : n ≤ 1600) (q : ByteArray) (hq : strOfNums (dumpN b) = q) :
    Calls Tryd.prog 7 #[.slice A n c] W fun e w' => e = .returned (.tuple #[.string q, .int .i64 0]) ∧ Below W.heap.size W w' := by
  subst hn hq
  obtain ⟨k, hk⟩ := (dumpR_ev b hb hl).rounds
  exact wireglassref01_Dump.calls k A c b _ _ W hC hc hk
theorem dumpR2 (A : Option Addr) (n c : Nat) (b : List Int) (W : World) (hn : b.length = n) (hC : Kd.C (Kd.int .u8) W A n b) (hc : n ≤ c) (hl : ¬ n ≤ 1600) :
    Calls Tryd.prog 7 #[.slice A n c] W fun e w' => e = .returned (.tuple #[.string ⟨#[]⟩, .int .i64 3]) ∧ Below W.heap.size W w' := by
  subst hn
  obtain ⟨k, hk⟩ := (dumpR_big b hl).rounds
  exact wireglassref01_Dump.calls k A c b _ _ W hC hc hk
theorem hexB1 (A : Option Addr) (n c : Nat) (b : List Int) (W : World) (hn : b.length = n) (hC : Kd.C (Kd.int .u8) W A n b) (hc : n ≤ c) (hb : isB b) (hl : n ≤ 1000000) (q : ByteArray) (hq : strOfNums (hexN b) = q) :
    Calls Tryd.prog 8 #[.slice A n c] W fun e w' => e = .returned (.string q) ∧ Below W.heap.size W w' := by
  subst hn hq
  obtain ⟨k, hk⟩ := (hexB_ev b hb hl).rounds
  exact bits_Hex.calls k A c b _ W hC hc hk
theorem hexR1 (A : Option Addr) (n c : Nat) (b : List Int) (W : World) (hn : b.length = n) (hC : Kd.C (Kd.int .u8) W A n b) (hc : n ≤ c) (hb : isB b) (hl : n ≤ 1000000) (q : ByteArray) (hq : strOfNums (hexN b) = q) :
    Calls Tryd.prog 9 #[.slice A n c] W fun e w' => e = .returned (.string q) ∧ Below W.heap.size W w' := by
  subst hn hq
  obtain ⟨k, hk⟩ := (hexR_ev b hb hl).rounds
  exact wireglassref01_Hex.calls k A c b _ W hC hc hk
/-- A slice that a call has made holds these numbers. -/
def Holds (N : Nat) (A : Option Addr) (n c : Nat) (l : List Int) (W : World) : Prop := n = l.length ∧ n ≤ c ∧ Kd.C (Kd.int .u8) W A n l
theorem Holds.of {N : Nat} {v : Value} {l : List Int} {W : World} {base : Nat} {ok : Nat → Prop} (h : Kd.R (Kd.int .u8) 5 W base ok v l) : ∃ A n c, v = .slice A n c ∧ Holds N A n c l W := by
  obtain ⟨A, c, rfl⟩ := Kd.R_slice h
  exact ⟨A, _, c, rfl, rfl, (Kd.R_reads' h).2.1, (Kd.R_reads' h).2.2⟩
theorem Holds.move {N : Nat} {A : Option Addr} {n c : Nat} {l : List Int} {W W' : World} (h : Holds N A n c l W) (hb : Below W.heap.size W W') : Holds N A n c l W' := ⟨h.1, h.2.1, Kd.C_below h.2.2 hb⟩
theorem sameB1 (A1 A2 : Option Addr) (n1 c1 n2 c2 : Nat) (l : List Int) (W : World) (h1 : Holds 0 A1 n1 c1 l W) (h2 : Holds 0 A2 n2 c2 l W) :
    Calls Tryd.prog 11 #[.slice A1 n1 c1, .slice A2 n2 c2] W fun e w' => e = .returned (.bool true) ∧ Below W.heap.size W w' := by
  obtain ⟨rfl, h12, h13⟩ := h1
  obtain ⟨rfl, h22, h23⟩ := h2
  refine (wireglassref01_SameBytes.calls A1 c1 l A2 c2 l true W h13 h12 h23 h22 (by unfold wireglassref01_SameBytes.f; simp)).mono ?_
  rintro e w' ⟨rfl, hd⟩
  exact ⟨rfl, hd.below⟩
theorem undB1 (s : ByteArray) (hs : s.size ≤ 1000000) (mx : Int) (W : World) (hmx : W.cell? ⟨0, 0, none⟩ = some (.int .i64 mx)) (r1 : List Int) (r2 : Int) (hr : ∀ u1 u2, UndB s u1 u2 → u1 = r1 ∧ u2 = r2) :
    Calls Tryd.prog 10 #[.string s] W fun e w' => ∃ A n c, e = .returned (.tuple #[.slice A n c, .int .i64 r2]) ∧ Holds 0 A n c r1 w' ∧ Below W.heap.size W w' := by
  refine (bund.calls s hs mx W hmx).mono ?_
  rintro e w' ⟨v, u1, u2, rfl, hR, hb, hu⟩
  obtain ⟨rfl, rfl⟩ := hr _ _ hu
  obtain ⟨A, n, c, rfl, hh⟩ := Holds.of (N := 0) hR
  exact ⟨A, n, c, rfl, hh, hb⟩
theorem undR1 (s : ByteArray) (W : World) (r1 : List Int) (r2 : Int) (hr : Ev (fun k => wireglassref01_Undump.f k s) (r1, r2)) :
    Calls Tryd.prog 12 #[.string s] W fun e w' => ∃ A n c, e = .returned (.tuple #[.slice A n c, .int .i64 r2]) ∧ Holds 0 A n c r1 w' ∧ Below W.heap.size W w' := by
  obtain ⟨k, hk⟩ := hr.rounds
  refine (wireglassref01_Undump.calls k s r1 r2 W hk).mono ?_
  rintro e w' ⟨v, rfl, hR, hb⟩
  obtain ⟨A, n, c, rfl, hh⟩ := Holds.of (N := 0) hR
  exact ⟨A, n, c, rfl, hh, hb⟩
theorem unhB1 (s : ByteArray) (hs : s.size ≤ 1000000) (W : World) (r1 : List Int) (r2 : Int) (hr : unhexS s = (r1, r2)) :
    Calls Tryd.prog 13 #[.string s] W fun e w' => ∃ A n c, e = .returned (.tuple #[.slice A n c, .int .i64 r2]) ∧ Holds 0 A n c r1 w' ∧ Below W.heap.size W w' := by
  have hu := unhexB_ev s hs
  rw [hr] at hu
  obtain ⟨k, hk⟩ := hu.rounds
  refine (bits_Unhex.calls k s r1 r2 W hk).mono ?_
  rintro e w' ⟨v, rfl, hR, hb⟩
  obtain ⟨A, n, c, rfl, hh⟩ := Holds.of (N := 0) hR
  exact ⟨A, n, c, rfl, hh, hb⟩
theorem unhR1 (s : ByteArray) (hs : s.size ≤ 1000000) (W : World) (r1 : List Int) (r2 : Int) (hr : unhexS s = (r1, r2)) :
    Calls Tryd.prog 14 #[.string s] W fun e w' => ∃ A n c, e = .returned (.tuple #[.slice A n c, .int .i64 r2]) ∧ Holds 0 A n c r1 w' ∧ Below W.heap.size W w' := by
  have hu := unhexR_ev s hs
  rw [hr] at hu
  obtain ⟨k, hk⟩ := hu.rounds
  refine (wireglassref01_Unhex.calls k s r1 r2 W hk).mono ?_
  rintro e w' ⟨v, rfl, hR, hb⟩
  obtain ⟨A, n, c, rfl, hh⟩ := Holds.of (N := 0) hR
  exact ⟨A, n, c, rfl, hh, hb⟩
theorem step_b {w W W' : World} {N : Nat} (h : Below N w W) (hN : N ≤ W.heap.size) (hb : Below W.heap.size W W') : Below N w W' ∧ N ≤ W'.heap.size := ⟨h.trans (hb.mono hN), Nat.le_trans hN hb.size⟩
set_option maxHeartbeats 4000000 in
set_option maxRecDepth 100000 in
theorem BitsDumps.walk0 (A : Option Addr) (n c : Nat) (b : List Int) (w : World) (hn : b.length = n) (hC : Kd.C (Kd.int .u8) w A n b) (hc : n ≤ c) (hb : isB b) (mx : Int) (hmx : w.cell? ⟨0, 0, none⟩ = some (.int .i64 mx)) :
    Calls Tryd.prog 3 #[.slice A n c] w fun e w' => e = .returned (.bool true) ∧ Below w.heap.size w w' := by
  obtain ⟨N, hN⟩ : ∃ N, w.heap.size = N := ⟨_, rfl⟩
  have hNp : 0 < N := by
    rcases Nat.eq_zero_or_pos w.heap.size with h | h
    · simp [World.cell?, Array.getElem?_eq_none (show w.heap.size ≤ 0 by omega)] at hmx
    · omega
  have HC := Aside0.mk hC
  have HNL := Aside0.mk hn
  have HCC := Aside0.mk hc
  have HB := Aside0.mk hb
  have HMX : Aside0 (∀ W, Below N w W → W.cell? ⟨0, 0, none⟩ = some (.int .i64 mx)) := ⟨fun W h => (h.cell (p := ⟨0, 0, none⟩) hNp).trans hmx⟩
  have HRD : Aside0 (∀ W, Below N w W → Kd.C (Kd.int .u8) W A n b) := ⟨fun W h => Kd.C_below hC (by rw [hN]; exact h)⟩
  have HS : Aside0 (Below N w w ∧ N ≤ w.heap.size) := ⟨Below.refl _ _, by omega⟩
  have HHO : Aside0 (∀ W, Below N w W → Holds 0 A n c b W) := ⟨fun W h => ⟨hn.symm, hc, Kd.C_below hC (by rw [hN]; exact h)⟩⟩
  have HNN := Aside0.mk hN
  clear hC hn hc hb hmx hN hNp
  by_cases c1 : n ≤ 20000
  · have g1 : decide (20000 < (n : Int)) = false := decide_eq_false (by omega)
    have g2 : decide (20000 < n) = false := decide_eq_false (by omega)
    obtain ⟨hx, hhx⟩ : ∃ hx, strOfNums (hexN b) = hx := ⟨_, rfl⟩
    have HX := Aside0.mk hhx
    have HL : Aside0 (n ≤ 1000000) := ⟨by omega⟩
    clear hhx
    by_cases c2 : n ≤ 1600
    · obtain ⟨q, hq⟩ : ∃ q, strOfNums (dumpN b) = q := ⟨_, rfl⟩
      have HQ := Aside0.mk hq
      have HQS : Aside0 (q.size ≤ 1000000) := ⟨by rw [← hq, strOfNums_size]; unfold dumpN; have := rowsN_len b ((b.length + 15) / 16); have := HNL.out; omega⟩
      have HG : Aside0 (∀ u1 u2, UndB q u1 u2 → u1 = b ∧ u2 = 0) := ⟨fun u1 u2 hu => undB_good ⟨HB.out, by rw [HNL.out]; exact c2, hq⟩ hu⟩
      have HL2 := Aside0.mk c2
      clear hq c2 c1
      go_enter Tryd.func3, Tryd.ntmps3
      go_wp2_with (first
        | (go_at_call 6; (with_reducible refine (dumpB1 A n c b _ HNL.out (HRD.out _ HS.out.1) HCC.out HB.out HL2.out q HQ.out).mono ?_); rintro e W1 ⟨rfl, hb⟩; have HS1 := Aside0.mk (step_b HS.out.1 HS.out.2 hb); clear hb HS; have HS := HS1; clear HS1)
        | (go_at_call 7; (with_reducible refine (dumpR1 A n c b _ HNL.out (HRD.out _ HS.out.1) HCC.out HB.out HL2.out q HQ.out).mono ?_); rintro e W1 ⟨rfl, hb⟩; have HS1 := Aside0.mk (step_b HS.out.1 HS.out.2 hb); clear hb HS; have HS := HS1; clear HS1)
        | (go_at_call 8; (with_reducible refine (hexB1 A n c b _ HNL.out (HRD.out _ HS.out.1) HCC.out HB.out HL.out hx HX.out).mono ?_); rintro e W1 ⟨rfl, hb⟩; have HS1 := Aside0.mk (step_b HS.out.1 HS.out.2 hb); clear hb HS; have HS := HS1; clear HS1)
        | (go_at_call 9; (with_reducible refine (hexR1 A n c b _ HNL.out (HRD.out _ HS.out.1) HCC.out HB.out HL.out hx HX.out).mono ?_); rintro e W1 ⟨rfl, hb⟩; have HS1 := Aside0.mk (step_b HS.out.1 HS.out.2 hb); clear hb HS; have HS := HS1; clear HS1)
        | (go_at_call 10; (with_reducible refine (undB1 q HQS.out mx _ (HMX.out _ HS.out.1) b 0 HG.out).mono ?_); rintro e W1 ⟨A3, n3, c3, rfl, hh, hb⟩; have HH := Aside0.mk hh; have HS1 := Aside0.mk (step_b HS.out.1 HS.out.2 hb); clear hb HS hh; have HS := HS1; clear HS1)
        | (go_at_call 11; (with_reducible refine (sameB1 A A3 n c n3 c3 b _ (HHO.out _ HS.out.1) HH.out).mono ?_); rintro e W1 ⟨rfl, hb⟩; have HS1 := Aside0.mk (step_b HS.out.1 HS.out.2 hb); clear hb HS; have HS := HS1; clear HS1)
        | (go_at_call 5; (with_reducible refine (knownD.calls _).mono ?_); rintro e W1 ⟨rfl, hb⟩; have HS1 := Aside0.mk (step_b HS.out.1 HS.out.2 hb); clear hb HS; have HS := HS1; clear HS1))
      go_ret
      exact ⟨rfl, by rw [HNN.out]; exact HS.out.1⟩
    · have HL2 := Aside0.mk c2
      clear c2 c1
      go_enter Tryd.func3, Tryd.ntmps3
      go_wp2_with (first
        | (go_at_call 6; (with_reducible refine (bdump.big A c n _ HL2.out).mono ?_); rintro e W1 ⟨rfl, hb⟩; have HS1 := Aside0.mk (step_b HS.out.1 HS.out.2 hb); clear hb HS; have HS := HS1; clear HS1)
        | (go_at_call 7; (with_reducible refine (dumpR2 A n c b _ HNL.out (HRD.out _ HS.out.1) HCC.out HL2.out).mono ?_); rintro e W1 ⟨rfl, hb⟩; have HS1 := Aside0.mk (step_b HS.out.1 HS.out.2 hb); clear hb HS; have HS := HS1; clear HS1)
        | (go_at_call 8; (with_reducible refine (hexB1 A n c b _ HNL.out (HRD.out _ HS.out.1) HCC.out HB.out HL.out hx HX.out).mono ?_); rintro e W1 ⟨rfl, hb⟩; have HS1 := Aside0.mk (step_b HS.out.1 HS.out.2 hb); clear hb HS; have HS := HS1; clear HS1)
        | (go_at_call 9; (with_reducible refine (hexR1 A n c b _ HNL.out (HRD.out _ HS.out.1) HCC.out HB.out HL.out hx HX.out).mono ?_); rintro e W1 ⟨rfl, hb⟩; have HS1 := Aside0.mk (step_b HS.out.1 HS.out.2 hb); clear hb HS; have HS := HS1; clear HS1)
        | (go_at_call 5; (with_reducible refine (knownD.calls _).mono ?_); rintro e W1 ⟨rfl, hb⟩; have HS1 := Aside0.mk (step_b HS.out.1 HS.out.2 hb); clear hb HS; have HS := HS1; clear HS1))
      go_ret
      exact ⟨rfl, by rw [HNN.out]; exact HS.out.1⟩
  · have g1 : decide (20000 < (n : Int)) = true := decide_eq_true (by omega)
    have g2 : decide (20000 < n) = true := decide_eq_true (by omega)
    clear c1
    go_enter Tryd.func3, Tryd.ntmps3
    go_wp2_with (go_at_call 5; (with_reducible refine (knownD.calls _).mono ?_); rintro e W1 ⟨rfl, hb⟩; have HS1 := Aside0.mk (step_b HS.out.1 HS.out.2 hb); clear hb HS; have HS := HS1; clear HS1)
    go_ret
    exact ⟨rfl, by rw [HNN.out]; exact HS.out.1⟩
set_option maxHeartbeats 4000000 in
set_option maxRecDepth 100000 in
theorem BitsTexts.walk0 (s : ByteArray) (w : World) (mx : Int) (hmx : w.cell? ⟨0, 0, none⟩ = some (.int .i64 mx)) :
    Calls Tryd.prog 4 #[.string s] w fun e w' => e = .returned (.bool true) ∧ Below w.heap.size w w' := by
  obtain ⟨N, hN⟩ : ∃ N, w.heap.size = N := ⟨_, rfl⟩
  have hNp : 0 < N := by
    rcases Nat.eq_zero_or_pos w.heap.size with h | h
    · simp [World.cell?, Array.getElem?_eq_none (show w.heap.size ≤ 0 by omega)] at hmx
    · omega
  have HMX : Aside0 (∀ W, Below N w W → W.cell? ⟨0, 0, none⟩ = some (.int .i64 mx)) := ⟨fun W h => (h.cell (p := ⟨0, 0, none⟩) hNp).trans hmx⟩
  have HS : Aside0 (Below N w w ∧ N ≤ w.heap.size) := ⟨Below.refl _ _, by omega⟩
  have HNN := Aside0.mk hN
  clear hmx hN hNp
  by_cases c1 : s.size ≤ 20000
  · have g1 : decide (20000 < (s.size : Int)) = false := decide_eq_false (by omega)
    have g2 : decide (20000 < s.size) = false := decide_eq_false (by omega)
    obtain ⟨r1, r2, hr, hone⟩ : ∃ r1 r2, Ev (fun k => wireglassref01_Undump.f k s) (r1, r2) ∧ ∀ u1 u2, UndB s u1 u2 → u1 = r1 ∧ u2 = r2 := by
      obtain ⟨⟨r1, r2⟩, hr, _⟩ := ref_ok s (by omega)
      refine ⟨r1, r2, hr, fun u1 u2 hu => ?_⟩
      have h1 := both_und (by omega) hu
      obtain ⟨k1, e1⟩ := h1
      obtain ⟨k2, e2⟩ := hr
      have a1 := e1 (max k1 k2) (by omega)
      have a2 := e2 (max k1 k2) (by omega)
      rw [a1] at a2
      injection a2 with a2
      injection a2 with h3 h4
      exact ⟨h3, h4⟩
    obtain ⟨x1, x2, hx⟩ : ∃ x1 x2, unhexS s = (x1, x2) := ⟨_, _, rfl⟩
    have HR := Aside0.mk hr
    have HO := Aside0.mk hone
    have HX := Aside0.mk hx
    have HL : Aside0 (s.size ≤ 1000000) := ⟨by omega⟩
    clear hr hone hx c1
    go_enter Tryd.func4, Tryd.ntmps4
    go_wp2_with (first
      | (go_at_call 10; (with_reducible refine (undB1 s HL.out mx _ (HMX.out _ HS.out.1) r1 r2 HO.out).mono ?_); rintro e W1 ⟨A1, n1, c1, rfl, hh, hb⟩; have H1 := Aside0.mk hh; have HS1 := Aside0.mk (step_b HS.out.1 HS.out.2 hb); clear hb HS hh; have HS := HS1; clear HS1)
      | (go_at_call 12; (with_reducible refine (undR1 s _ r1 r2 HR.out).mono ?_); rintro e W1 ⟨A2, n2, c2, rfl, hh, hb⟩; have H2 := Aside0.mk hh; have H1b := Aside0.mk (H1.out.move hb); have HS1 := Aside0.mk (step_b HS.out.1 HS.out.2 hb); clear hb HS hh H1; have HS := HS1; have H1 := H1b; clear HS1 H1b)
      | (go_at_call 13; (with_reducible refine (unhB1 s HL.out _ x1 x2 HX.out).mono ?_); rintro e W1 ⟨A3, n3, c3, rfl, hh, hb⟩; have H3 := Aside0.mk hh; have H1b := Aside0.mk (H1.out.move hb); have H2b := Aside0.mk (H2.out.move hb); have HS1 := Aside0.mk (step_b HS.out.1 HS.out.2 hb); clear hb HS hh H1 H2; have HS := HS1; have H1 := H1b; have H2 := H2b; clear HS1 H1b H2b)
      | (go_at_call 14; (with_reducible refine (unhR1 s HL.out _ x1 x2 HX.out).mono ?_); rintro e W1 ⟨A4, n4, c4, rfl, hh, hb⟩; have H4 := Aside0.mk hh; have H1b := Aside0.mk (H1.out.move hb); have H2b := Aside0.mk (H2.out.move hb); have H3b := Aside0.mk (H3.out.move hb); have HS1 := Aside0.mk (step_b HS.out.1 HS.out.2 hb); clear hb HS hh H1 H2 H3; have HS := HS1; have H1 := H1b; have H2 := H2b; have H3 := H3b; clear HS1 H1b H2b H3b)
      | (go_at_call 11; (with_reducible refine (sameB1 A1 A2 n1 c1 n2 c2 r1 _ H1.out H2.out).mono ?_); rintro e W1 ⟨rfl, hb⟩; have H3b := Aside0.mk (H3.out.move hb); have H4b := Aside0.mk (H4.out.move hb); have HS1 := Aside0.mk (step_b HS.out.1 HS.out.2 hb); clear hb HS H1 H2 H3 H4; have HS := HS1; have H3 := H3b; have H4 := H4b; clear HS1 H3b H4b)
      | (go_at_call 11; (with_reducible refine (sameB1 A3 A4 n3 c3 n4 c4 x1 _ H3.out H4.out).mono ?_); rintro e W1 ⟨rfl, hb⟩; have HS1 := Aside0.mk (step_b HS.out.1 HS.out.2 hb); clear hb HS; have HS := HS1; clear HS1)
      | (go_at_call 5; (with_reducible refine (knownD.calls _).mono ?_); rintro e W1 ⟨rfl, hb⟩; have HS1 := Aside0.mk (step_b HS.out.1 HS.out.2 hb); clear hb HS; have HS := HS1; clear HS1))
    go_ret
    exact ⟨rfl, by rw [HNN.out]; exact HS.out.1⟩
  · have g1 : decide (20000 < (s.size : Int)) = true := decide_eq_true (by omega)
    have g2 : decide (20000 < s.size) = true := decide_eq_true (by omega)
    clear c1
    go_enter Tryd.func4, Tryd.ntmps4
    go_wp2_with (go_at_call 5; (with_reducible refine (knownD.calls _).mono ?_); rintro e W1 ⟨rfl, hb⟩; have HS1 := Aside0.mk (step_b HS.out.1 HS.out.2 hb); clear hb HS; have HS := HS1; clear HS1)
    go_ret
    exact ⟨rfl, by rw [HNN.out]; exact HS.out.1⟩
end Go.Proofs.YtlilcbpcjmcfbaaDoor.Pure
