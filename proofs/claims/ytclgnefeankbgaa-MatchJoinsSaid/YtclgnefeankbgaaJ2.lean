/- MatchJoins: the walk where a text is too long or no pattern. Conditions: as each theorem says. -/
import Derived.Test.YtclgnefeankbgaaJ1
namespace Go.Proofs.Ytclgnefeankbgaa.M
open Go Go.RowKit Go.Proofs.YtclgnefeankbgaaW.PrintWords Go.Proofs.YtclgnefeankbgaaW.PrintLast Go.Proofs.YtclgnefeankbgaaW.PrintMore Hand
attribute [local go_sem] Oper.semAt_some max2_int min2_int max_two min_two max_three min_three max_four min_four
set_option linter.unusedVariables false
set_option linter.unusedSimpArgs false
section
variable {ops : Array Oper} {rest : List Oper} {o : Oper} {a : Act} {Q : Exit → Act → World → Prop} {w : World}
theorem box_2s (hg : o.guard = none) {d : Tmp} (hd : o.dst = some d) (x : Operand) (hop : o.op = .box 22 x) (s t : ByteArray) (hx : a.eval x = .agg #[.string s, .string t]) (hK : ∀ g w', g = w.heap.size → VAt w' g 22 #[.string s, .string t] → Below w.heap.size w w' → wpList Try.prog ops Q rest (a.put o.dst (.pointer (some ⟨g, 0, none⟩))) w') : wpList Try.prog ops Q (o :: rest) a w := by
  refine box_event hg hd (cs := #[.string s, .string t]) (t := 22) ?_ (fun g hgs w1 hb hbl => hK g w1 hgs hb hbl)
  have hrun : (Instr.box 22 (.agg #[.string s, .string t])).run Try.prog w = .ok (.pointer (some ⟨w.heap.size, 0, none⟩)) (w.alloc (.cells #[.string s, .string t] 22)) := by
    simp [Instr.box, newVar, newRow, Value.cells, go_sem]
  simp [execOp, hop, hx, Result.andThen, hrun]
end
def atOf (r : PR) : Int := match r with
  | .wrong n => (n : Int)
  | _ => 0
def eOf (r : PR) : Int := match r with
  | .large => 3
  | .wrong _ => 2
  | .ok _ _ => 0
theorem Parse.callsG (s : ByteArray) (W : World) (hs : s.size ≤ 9223372036854775807) : Calls Try.prog 10 #[.string s, .bool false] W fun e w' => ∃ P : Option Addr, e = .returned (.tuple #[.pointer P, .int .i64 (atOf (parseR s false)), .int .i64 (eOf (parseR s false))]) ∧ Below W.heap.size W w' := by
  refine (Parse.callsT s false W hs).mono fun e w' h => ?_
  cases hr : parseR s false with
  | large => rw [hr] at h; exact ⟨none, h⟩
  | wrong n => rw [hr] at h; exact ⟨none, h⟩
  | ok z xs => rw [hr] at h; obtain ⟨g, b, he, _, hb⟩ := h; exact ⟨_, he, hb⟩
set_option maxHeartbeats 16000000 in
set_option maxRecDepth 100000 in
theorem MatchJoins.small (s t : ByteArray) (A : Option Addr) (n c : Nat) (at_ : Int) (W : World) (hs : s.size ≤ 140737488351232) (ht : t.size ≤ 140737488351232) (h : 32768 < s.size + t.size ∨ 300 < n) :
    Calls Try.prog 3 #[.agg #[.string s, .string t], .slice A n c, .int .i64 at_] W fun e w' => e = .returned (.bool true) ∧ Below W.heap.size W w' := by
  have HK := Aside0.mk known.calls
  have ws : IntKind.i64.wrap ((s.size : Int) + (t.size : Int)) = (s.size : Int) + (t.size : Int) := by rw [IntKind.wrap_i64]; omega
  by_cases c1 : 32768 < s.size + t.size
  · have d1 : decide ((32768 : Int) < (s.size : Int) + (t.size : Int)) = true := decide_eq_true (by omega)
    have d2 : decide (32768 < s.size + t.size) = true := decide_eq_true c1
    clear h hs ht
    go_enter Try.func3, Try.ntmps3
    go_wp2_with (first
      | (go_at_call 9; (with_reducible refine (HK.out _).mono ?_); rintro e w9 ⟨rfl, hb⟩; have HB9 := Aside0.mk (HB1.out.trans (hb.mono HB1.out.size)); clear hb)
      | ((with_reducible refine gate_box (t := 22) (d := 3) rfl rfl ?_); refine box_2s rfl rfl _ rfl s t rfl ?_; intro r w1 hg1 hc1 hb1; have HB1 := Aside0.mk hb1; have HV1 := Aside0.mk hc1; have y0 : w1.cell? ⟨r, 0, none⟩ = some (.string s) := (blk_cell hc1 0).trans rfl; have y1 : w1.cell? ⟨r, 1, none⟩ = some (.string t) := (blk_cell hc1 1).trans rfl; clear hg1 hc1 hb1))
    go_ret
    exact ⟨rfl, HB9.out⟩
  · have d1 : decide ((32768 : Int) < (s.size : Int) + (t.size : Int)) = false := decide_eq_false (by omega)
    have d2 : decide (32768 < s.size + t.size) = false := decide_eq_false c1
    have d3 : decide ((300 : Int) < (n : Int)) = true := decide_eq_true (by omega)
    have d4 : decide (300 < n) = true := decide_eq_true (by omega)
    clear h hs ht
    go_enter Try.func3, Try.ntmps3
    go_wp2_with (first
      | (go_at_call 9; (with_reducible refine (HK.out _).mono ?_); rintro e w9 ⟨rfl, hb⟩; have HB9 := Aside0.mk (HB1.out.trans (hb.mono HB1.out.size)); clear hb)
      | ((with_reducible refine gate_box (t := 22) (d := 3) rfl rfl ?_); refine box_2s rfl rfl _ rfl s t rfl ?_; intro r w1 hg1 hc1 hb1; have HB1 := Aside0.mk hb1; have HV1 := Aside0.mk hc1; have y0 : w1.cell? ⟨r, 0, none⟩ = some (.string s) := (blk_cell hc1 0).trans rfl; have y1 : w1.cell? ⟨r, 1, none⟩ = some (.string t) := (blk_cell hc1 1).trans rfl; clear hg1 hc1 hb1))
    go_ret
    exact ⟨rfl, HB9.out⟩
set_option maxHeartbeats 16000000 in
set_option maxRecDepth 100000 in
theorem MatchJoins.wrong (s t : ByteArray) (A : Option Addr) (n c : Nat) (at_ : Int) (W : World) (hs : s.size + t.size ≤ 32768) (hn : n ≤ 300) (e1 e2 e3 e4 n1 n2 n3 n4 : Int) (he : e1 ≠ 0 ∨ e2 ≠ 0 ∨ e3 ≠ 0 ∨ e4 ≠ 0) (hp1 : ∀ W', Calls Try.prog 10 #[.string s, .bool false] W' fun e w' => ∃ P : Option Addr, e = .returned (.tuple #[.pointer P, .int .i64 n1, .int .i64 e1]) ∧ Below W'.heap.size W' w') (hp2 : ∀ W', Calls Try.prog 10 #[.string t, .bool false] W' fun e w' => ∃ P : Option Addr, e = .returned (.tuple #[.pointer P, .int .i64 n2, .int .i64 e2]) ∧ Below W'.heap.size W' w') (hp3 : ∀ W', Calls Try.prog 10 #[.string ((⟨#[40]⟩ : ByteArray) ++ s ++ ⟨#[41, 124, 40]⟩ ++ t ++ ⟨#[41]⟩), .bool false] W' fun e w' => ∃ P : Option Addr, e = .returned (.tuple #[.pointer P, .int .i64 n3, .int .i64 e3]) ∧ Below W'.heap.size W' w') (hp4 : ∀ W', Calls Try.prog 10 #[.string ((⟨#[40]⟩ : ByteArray) ++ s ++ ⟨#[41, 40]⟩ ++ t ++ ⟨#[41]⟩), .bool false] W' fun e w' => ∃ P : Option Addr, e = .returned (.tuple #[.pointer P, .int .i64 n4, .int .i64 e4]) ∧ Below W'.heap.size W' w') :
    Calls Try.prog 3 #[.agg #[.string s, .string t], .slice A n c, .int .i64 at_] W fun e w' => e = .returned (.bool true) ∧ Below W.heap.size W w' := by
  have HK := Aside0.mk known.calls
  have HP1 := Aside0.mk hp1
  have HP2 := Aside0.mk hp2
  have HP3 := Aside0.mk hp3
  have HP4 := Aside0.mk hp4
  have s1 : s.size ≤ 32768 := by omega
  have s2 : t.size ≤ 32768 := by omega
  have ws : IntKind.i64.wrap ((s.size : Int) + (t.size : Int)) = (s.size : Int) + (t.size : Int) := by rw [IntKind.wrap_i64]; omega
  have d1 : decide ((32768 : Int) < (s.size : Int) + (t.size : Int)) = false := decide_eq_false (by omega)
  have d2 : decide (32768 < s.size + t.size) = false := decide_eq_false (by omega)
  have d3 : decide ((300 : Int) < (n : Int)) = false := decide_eq_false (by omega)
  have d4 : decide (300 < n) = false := decide_eq_false (by omega)
  clear hp1 hp2 hp3 hp4 hs hn
  by_cases c1 : e1 ≠ 0
  · have g1 : (e1 == 0) = false := beq_eq_false_iff_ne.2 c1
    have k1 : (e1 != 0) = true := by simp [c1]
    clear he
    go_enter Try.func3, Try.ntmps3
    go_wp2_with (first
      | (go_at_call 9; (with_reducible refine (HK.out _).mono ?_); rintro e w9 ⟨rfl, hb⟩; have HB9 := Aside0.mk (HB5.out.trans (hb.mono HB5.out.size)); clear hb)
      | (go_at_call 10; (with_reducible refine (HP4.out _).mono ?_); rintro e w5 ⟨P4, rfl, hb⟩; have HV5 := Aside0.mk (HV4.out.move hb); have HB5 := Aside0.mk (HB4.out.trans (hb.mono HB4.out.size)); have y2 := (blk_cell HV5.out 0); have y3 := (blk_cell HV5.out 1); have y4a : w5.cell? ⟨r, 0, none⟩ = some (.string s) := y2; have y4b : w5.cell? ⟨r, 1, none⟩ = some (.string t) := y3; clear hb y2 y3)
      | (go_at_call 10; (with_reducible refine (HP3.out _).mono ?_); rintro e w4 ⟨P3, rfl, hb⟩; have HV4 := Aside0.mk (HV3.out.move hb); have HB4 := Aside0.mk (HB3.out.trans (hb.mono HB3.out.size)); have y2 := (blk_cell HV4.out 0); have y3 := (blk_cell HV4.out 1); have y3a : w4.cell? ⟨r, 0, none⟩ = some (.string s) := y2; have y3b : w4.cell? ⟨r, 1, none⟩ = some (.string t) := y3; clear hb y2 y3)
      | (go_at_call 10; (with_reducible refine (HP2.out _).mono ?_); rintro e w3 ⟨P2, rfl, hb⟩; have HV3 := Aside0.mk (HV2.out.move hb); have HB3 := Aside0.mk (HB2.out.trans (hb.mono HB2.out.size)); have y2 := (blk_cell HV3.out 0); have y3 := (blk_cell HV3.out 1); have y2a : w3.cell? ⟨r, 0, none⟩ = some (.string s) := y2; have y2b : w3.cell? ⟨r, 1, none⟩ = some (.string t) := y3; clear hb y2 y3)
      | (go_at_call 10; (with_reducible refine (HP1.out _).mono ?_); rintro e w2 ⟨P1, rfl, hb⟩; have HV2 := Aside0.mk (HV1.out.move hb); have HB2 := Aside0.mk (HB1.out.trans (hb.mono HB1.out.size)); have y2 := (blk_cell HV2.out 0); have y3 := (blk_cell HV2.out 1); have y1a : w2.cell? ⟨r, 0, none⟩ = some (.string s) := y2; have y1b : w2.cell? ⟨r, 1, none⟩ = some (.string t) := y3; clear hb y2 y3)
      | ((with_reducible refine gate_box (t := 22) (d := 3) rfl rfl ?_); refine box_2s rfl rfl _ rfl s t rfl ?_; intro r w1 hg1 hc1 hb1; have HB1 := Aside0.mk hb1; have HV1 := Aside0.mk hc1; have y0 : w1.cell? ⟨r, 0, none⟩ = some (.string s) := (blk_cell hc1 0).trans rfl; have y1 : w1.cell? ⟨r, 1, none⟩ = some (.string t) := (blk_cell hc1 1).trans rfl; clear hg1 hc1 hb1))
    go_ret
    exact ⟨rfl, HB9.out⟩
  have z1 : e1 = 0 := by omega
  subst z1
  clear c1
  by_cases c2 : e2 ≠ 0
  · have g2 : (e2 == 0) = false := beq_eq_false_iff_ne.2 c2
    have k2 : (e2 != 0) = true := by simp [c2]
    clear he
    go_enter Try.func3, Try.ntmps3
    go_wp2_with (first
      | (go_at_call 9; (with_reducible refine (HK.out _).mono ?_); rintro e w9 ⟨rfl, hb⟩; have HB9 := Aside0.mk (HB5.out.trans (hb.mono HB5.out.size)); clear hb)
      | (go_at_call 10; (with_reducible refine (HP4.out _).mono ?_); rintro e w5 ⟨P4, rfl, hb⟩; have HV5 := Aside0.mk (HV4.out.move hb); have HB5 := Aside0.mk (HB4.out.trans (hb.mono HB4.out.size)); have y2 := (blk_cell HV5.out 0); have y3 := (blk_cell HV5.out 1); have y4a : w5.cell? ⟨r, 0, none⟩ = some (.string s) := y2; have y4b : w5.cell? ⟨r, 1, none⟩ = some (.string t) := y3; clear hb y2 y3)
      | (go_at_call 10; (with_reducible refine (HP3.out _).mono ?_); rintro e w4 ⟨P3, rfl, hb⟩; have HV4 := Aside0.mk (HV3.out.move hb); have HB4 := Aside0.mk (HB3.out.trans (hb.mono HB3.out.size)); have y2 := (blk_cell HV4.out 0); have y3 := (blk_cell HV4.out 1); have y3a : w4.cell? ⟨r, 0, none⟩ = some (.string s) := y2; have y3b : w4.cell? ⟨r, 1, none⟩ = some (.string t) := y3; clear hb y2 y3)
      | (go_at_call 10; (with_reducible refine (HP2.out _).mono ?_); rintro e w3 ⟨P2, rfl, hb⟩; have HV3 := Aside0.mk (HV2.out.move hb); have HB3 := Aside0.mk (HB2.out.trans (hb.mono HB2.out.size)); have y2 := (blk_cell HV3.out 0); have y3 := (blk_cell HV3.out 1); have y2a : w3.cell? ⟨r, 0, none⟩ = some (.string s) := y2; have y2b : w3.cell? ⟨r, 1, none⟩ = some (.string t) := y3; clear hb y2 y3)
      | (go_at_call 10; (with_reducible refine (HP1.out _).mono ?_); rintro e w2 ⟨P1, rfl, hb⟩; have HV2 := Aside0.mk (HV1.out.move hb); have HB2 := Aside0.mk (HB1.out.trans (hb.mono HB1.out.size)); have y2 := (blk_cell HV2.out 0); have y3 := (blk_cell HV2.out 1); have y1a : w2.cell? ⟨r, 0, none⟩ = some (.string s) := y2; have y1b : w2.cell? ⟨r, 1, none⟩ = some (.string t) := y3; clear hb y2 y3)
      | ((with_reducible refine gate_box (t := 22) (d := 3) rfl rfl ?_); refine box_2s rfl rfl _ rfl s t rfl ?_; intro r w1 hg1 hc1 hb1; have HB1 := Aside0.mk hb1; have HV1 := Aside0.mk hc1; have y0 : w1.cell? ⟨r, 0, none⟩ = some (.string s) := (blk_cell hc1 0).trans rfl; have y1 : w1.cell? ⟨r, 1, none⟩ = some (.string t) := (blk_cell hc1 1).trans rfl; clear hg1 hc1 hb1))
    go_ret
    exact ⟨rfl, HB9.out⟩
  have z2 : e2 = 0 := by omega
  subst z2
  clear c2
  by_cases c3 : e3 ≠ 0
  · have g3 : (e3 == 0) = false := beq_eq_false_iff_ne.2 c3
    have k3 : (e3 != 0) = true := by simp [c3]
    clear he
    go_enter Try.func3, Try.ntmps3
    go_wp2_with (first
      | (go_at_call 9; (with_reducible refine (HK.out _).mono ?_); rintro e w9 ⟨rfl, hb⟩; have HB9 := Aside0.mk (HB5.out.trans (hb.mono HB5.out.size)); clear hb)
      | (go_at_call 10; (with_reducible refine (HP4.out _).mono ?_); rintro e w5 ⟨P4, rfl, hb⟩; have HV5 := Aside0.mk (HV4.out.move hb); have HB5 := Aside0.mk (HB4.out.trans (hb.mono HB4.out.size)); have y2 := (blk_cell HV5.out 0); have y3 := (blk_cell HV5.out 1); have y4a : w5.cell? ⟨r, 0, none⟩ = some (.string s) := y2; have y4b : w5.cell? ⟨r, 1, none⟩ = some (.string t) := y3; clear hb y2 y3)
      | (go_at_call 10; (with_reducible refine (HP3.out _).mono ?_); rintro e w4 ⟨P3, rfl, hb⟩; have HV4 := Aside0.mk (HV3.out.move hb); have HB4 := Aside0.mk (HB3.out.trans (hb.mono HB3.out.size)); have y2 := (blk_cell HV4.out 0); have y3 := (blk_cell HV4.out 1); have y3a : w4.cell? ⟨r, 0, none⟩ = some (.string s) := y2; have y3b : w4.cell? ⟨r, 1, none⟩ = some (.string t) := y3; clear hb y2 y3)
      | (go_at_call 10; (with_reducible refine (HP2.out _).mono ?_); rintro e w3 ⟨P2, rfl, hb⟩; have HV3 := Aside0.mk (HV2.out.move hb); have HB3 := Aside0.mk (HB2.out.trans (hb.mono HB2.out.size)); have y2 := (blk_cell HV3.out 0); have y3 := (blk_cell HV3.out 1); have y2a : w3.cell? ⟨r, 0, none⟩ = some (.string s) := y2; have y2b : w3.cell? ⟨r, 1, none⟩ = some (.string t) := y3; clear hb y2 y3)
      | (go_at_call 10; (with_reducible refine (HP1.out _).mono ?_); rintro e w2 ⟨P1, rfl, hb⟩; have HV2 := Aside0.mk (HV1.out.move hb); have HB2 := Aside0.mk (HB1.out.trans (hb.mono HB1.out.size)); have y2 := (blk_cell HV2.out 0); have y3 := (blk_cell HV2.out 1); have y1a : w2.cell? ⟨r, 0, none⟩ = some (.string s) := y2; have y1b : w2.cell? ⟨r, 1, none⟩ = some (.string t) := y3; clear hb y2 y3)
      | ((with_reducible refine gate_box (t := 22) (d := 3) rfl rfl ?_); refine box_2s rfl rfl _ rfl s t rfl ?_; intro r w1 hg1 hc1 hb1; have HB1 := Aside0.mk hb1; have HV1 := Aside0.mk hc1; have y0 : w1.cell? ⟨r, 0, none⟩ = some (.string s) := (blk_cell hc1 0).trans rfl; have y1 : w1.cell? ⟨r, 1, none⟩ = some (.string t) := (blk_cell hc1 1).trans rfl; clear hg1 hc1 hb1))
    go_ret
    exact ⟨rfl, HB9.out⟩
  have z3 : e3 = 0 := by omega
  subst z3
  clear c3
  have c4 : e4 ≠ 0 := by omega
  have g4 : (e4 == 0) = false := beq_eq_false_iff_ne.2 c4
  have k4 : (e4 != 0) = true := by simp [c4]
  clear he
  go_enter Try.func3, Try.ntmps3
  go_wp2_with (first
    | (go_at_call 9; (with_reducible refine (HK.out _).mono ?_); rintro e w9 ⟨rfl, hb⟩; have HB9 := Aside0.mk (HB5.out.trans (hb.mono HB5.out.size)); clear hb)
    | (go_at_call 10; (with_reducible refine (HP4.out _).mono ?_); rintro e w5 ⟨P4, rfl, hb⟩; have HV5 := Aside0.mk (HV4.out.move hb); have HB5 := Aside0.mk (HB4.out.trans (hb.mono HB4.out.size)); have y2 := (blk_cell HV5.out 0); have y3 := (blk_cell HV5.out 1); have y4a : w5.cell? ⟨r, 0, none⟩ = some (.string s) := y2; have y4b : w5.cell? ⟨r, 1, none⟩ = some (.string t) := y3; clear hb y2 y3)
    | (go_at_call 10; (with_reducible refine (HP3.out _).mono ?_); rintro e w4 ⟨P3, rfl, hb⟩; have HV4 := Aside0.mk (HV3.out.move hb); have HB4 := Aside0.mk (HB3.out.trans (hb.mono HB3.out.size)); have y2 := (blk_cell HV4.out 0); have y3 := (blk_cell HV4.out 1); have y3a : w4.cell? ⟨r, 0, none⟩ = some (.string s) := y2; have y3b : w4.cell? ⟨r, 1, none⟩ = some (.string t) := y3; clear hb y2 y3)
    | (go_at_call 10; (with_reducible refine (HP2.out _).mono ?_); rintro e w3 ⟨P2, rfl, hb⟩; have HV3 := Aside0.mk (HV2.out.move hb); have HB3 := Aside0.mk (HB2.out.trans (hb.mono HB2.out.size)); have y2 := (blk_cell HV3.out 0); have y3 := (blk_cell HV3.out 1); have y2a : w3.cell? ⟨r, 0, none⟩ = some (.string s) := y2; have y2b : w3.cell? ⟨r, 1, none⟩ = some (.string t) := y3; clear hb y2 y3)
    | (go_at_call 10; (with_reducible refine (HP1.out _).mono ?_); rintro e w2 ⟨P1, rfl, hb⟩; have HV2 := Aside0.mk (HV1.out.move hb); have HB2 := Aside0.mk (HB1.out.trans (hb.mono HB1.out.size)); have y2 := (blk_cell HV2.out 0); have y3 := (blk_cell HV2.out 1); have y1a : w2.cell? ⟨r, 0, none⟩ = some (.string s) := y2; have y1b : w2.cell? ⟨r, 1, none⟩ = some (.string t) := y3; clear hb y2 y3)
    | ((with_reducible refine gate_box (t := 22) (d := 3) rfl rfl ?_); refine box_2s rfl rfl _ rfl s t rfl ?_; intro r w1 hg1 hc1 hb1; have HB1 := Aside0.mk hb1; have HV1 := Aside0.mk hc1; have y0 : w1.cell? ⟨r, 0, none⟩ = some (.string s) := (blk_cell hc1 0).trans rfl; have y1 : w1.cell? ⟨r, 1, none⟩ = some (.string t) := (blk_cell hc1 1).trans rfl; clear hg1 hc1 hb1))
  go_ret
  exact ⟨rfl, HB9.out⟩
end Go.Proofs.Ytclgnefeankbgaa.M
