/- The classes of letters, digits, the reader's class. Conditions: as each theorem says. -/
import Derived.Test.YtclgnefeankbgaaM1
namespace Go.Proofs.Ytclgnefeankbgaa.M
open Go Go.RowKit Go.Proofs.YtclgnefeankbgaaW.PrintWords Go.Proofs.YtclgnefeankbgaaW.PrintLast Go.Proofs.YtclgnefeankbgaaW.PrintMore Hand
attribute [local go_sem] Oper.semAt_some max2_int min2_int max_two min_two max_three min_three max_four min_four
set_option linter.unusedVariables false
set_option linter.unusedSimpArgs false
/-- A result's cell and a variable, both of the call's own. -/
structure QC (w W : World) (r c : Nat) (z x : C4) : Prop where
  ler : w.heap.size ≤ r
  lec : w.heap.size ≤ c
  ne : r ≠ c
  hr : ClAt W r z
  hc : ClAt W c x
  below : Below w.heap.size w W
section
variable {w W W' : World} {r c : Nat} {z x y : C4}
theorem QC.move (h : QC w W r c z x) (hb : Below W.heap.size W W') : QC w W' r c z x := ⟨h.ler, h.lec, h.ne, h.hr.move hb, h.hc.move hb, h.below.trans (hb.mono h.below.size)⟩
theorem QC.setC (h : QC w W r c z x) (hc : ClAt W' c y) (hm : Mv c W W') : QC w W' r c z y := ⟨h.ler, h.lec, h.ne, h.hr.mv hm h.ne, hc, hm.below h.below h.lec h.below.size⟩
theorem QC.setR (h : QC w W r c z x) (hr : ClAt W' r y) (hm : Mv r W W') : QC w W' r c y x := ⟨h.ler, h.lec, h.ne, hr, h.hc.mv hm (Ne.symm h.ne), hm.below h.below h.ler h.below.size⟩
theorem QC.new {W1 : World} (h1 : ClAt W1 r z) (hr : r = w.heap.size) (hb1 : Below w.heap.size w W1) (h2 : ClAt W' c x) (hc : c = W1.heap.size) (hb2 : Below W1.heap.size W1 W') : QC w W' r c z x := ⟨by omega, by have := hb1.size; omega, by have := blk_lt h1; omega, h1.move hb2, h2, hb1.trans (hb2.mono hb1.size)⟩
theorem QC.newR {W1 : World} (h1 : ClAt W1 c x) (hr : c = w.heap.size) (hb1 : Below w.heap.size w W1) (h2 : ClAt W' r z) (hc : r = W1.heap.size) (hb2 : Below W1.heap.size W1 W') : QC w W' r c z x := ⟨by have := hb1.size; omega, by omega, by have := blk_lt h1; omega, h2, h1.move hb2, hb1.trans (hb2.mono hb1.size)⟩
end
theorem results_cl2 {fn : Func} {p u : Tmp} (h : fn.results = #[.cell p 64, .tmp u]) (tmps : Array Value) (W : World) {g : Nat} {c : C4} {v : Value} (hp : tmps.getD p undef = .pointer (some ⟨g, 0, none⟩)) (hu : tmps.getD u undef = v) (hc : ClAt W g c) : (results fn tmps).run Try.prog W = .ok (.tuple #[.agg c.cells, v]) W := by
  have hp' : tmps[p]?.getD undef = .pointer (some ⟨g, 0, none⟩) := by simpa using hp
  have hu' : tmps[u]?.getD undef = v := by simpa using hu
  have hl := load4 (P := Try.prog) hc (clAgg W) (clSize W)
  simp [results, h, hp', hu', asAddr, hl, C4.cells]
theorem results_cl3 {fn : Func} {p u q : Tmp} (h : fn.results = #[.cell p 64, .tmp u, .tmp q]) (tmps : Array Value) (W : World) {g : Nat} {c : C4} {v v' : Value} (hp : tmps.getD p undef = .pointer (some ⟨g, 0, none⟩)) (hu : tmps.getD u undef = v) (hq : tmps.getD q undef = v') (hc : ClAt W g c) : (results fn tmps).run Try.prog W = .ok (.tuple #[.agg c.cells, v, v']) W := by
  have hp' : tmps[p]?.getD undef = .pointer (some ⟨g, 0, none⟩) := by simpa using hp
  have hu' : tmps[u]?.getD undef = v := by simpa using hu
  have hq' : tmps[q]?.getD undef = v' := by simpa using hq
  have hl := load4 (P := Try.prog) hc (clAgg W) (clSize W)
  simp [results, h, hp', hu', hq', asAddr, hl, C4.cells]
def sevD : C4 := rangeN 48 10
def sevW : C4 := joinN (joinN (joinN (rangeN 48 10) (rangeN 97 26) 4) (rangeN 65 26) 4) (onlyC 95) 4
def sevS : C4 := joinN (joinN (joinN (onlyC 9) (onlyC 10) 4) (onlyC 13) 4) (onlyC 32) 4
/-- The class of a letter of an escape, by the letter made small. -/
def sevB (x : Int) : Option C4 := if x = 100 then some sevD else if x = 119 then some sevW else if x = 115 then some sevS else none
def low8 (b : Int) : Int := Go.bits .or .u8 b 32
def severalP (b : Int) : Option C4 := (sevB (low8 b)).map fun c => if b < 97 then othersN c 4 else c
set_option maxHeartbeats 4000000 in
set_option maxRecDepth 100000 in
theorem several.calls (b : Int) (W : World) (h0 : 0 ≤ b) (h1 : b ≤ 255) :
    Calls Try.prog 101 #[.int .u8 b] W fun e w' => ∃ c, e = .returned (.tuple #[.agg c.cells, .bool (severalP b).isSome]) ∧ (∀ x, severalP b = some x → c = x) ∧ Below W.heap.size W w' := by
  have HV : Aside0 (low8 b = Go.bits .or .u8 b 32) := ⟨rfl⟩
  obtain ⟨x, hx⟩ : ∃ x, Go.bits .or .u8 b 32 = x := ⟨_, rfl⟩
  rw [hx] at HV
  clear h0 h1
  by_cases q0 : x = 100
  · by_cases q9 : b < 97
    · obtain ⟨k1, hk1⟩ : ∃ k, rangeN 48 10 = k := ⟨_, rfl⟩
      have Hk1 : Aside0 (∀ W', Calls Try.prog 99 #[.int .u8 48, .int .u8 57] W' fun e w' => e = .returned (.agg k1.cells) ∧ Below W'.heap.size W' w') := ⟨fun W' => by rw [← hk1]; exact rangeOf.calls 48 57 10 W' (by omega) (by omega) (by omega) (by omega)⟩
      obtain ⟨k2, hk2⟩ : ∃ k, othersN k1 4 = k := ⟨_, rfl⟩
      have Hk2 : Aside0 (∀ W', Calls Try.prog 82 #[.agg k1.cells] W' fun e w' => e = .returned (.agg k2.cells) ∧ Below W'.heap.size W' w') := ⟨fun W' => by rw [← hk2]; exact others.calls k1 W'⟩
      have HP : Aside0 (severalP b = some k2) := ⟨by unfold severalP sevB; rw [HV.out, if_pos q0, Option.map_some, if_pos q9]; unfold sevD; rw [hk1, hk2]⟩
      have e0 : (x == 100) = true := beq_iff_eq.2 q0
      have e9 : decide (b < 97) = true := decide_eq_true q9
      rw [HP.out]
      clear q9 q0 hk1 hk2
      go_enter Try.func101, Try.ntmps101
      go_wp2_with (first
        | ((with_reducible refine gate_storeT (t := 64) (p := 2) rfl ?_); refine store_cl rfl 2 _ rfl _ rfl _ k2 rfl Q4.out.hr ?_; intro v5 hc hm; have Q5 := Aside0.mk (Q4.out.setR hc hm); clear hc hm)
        | ((with_reducible refine gate_load (t := 64) (p := 4) rfl ?_); refine load_cl rfl 4 rfl _ rfl _ Q4.out.hc ?_)
        | ((with_reducible refine gate_storeT (t := 64) (p := 4) rfl ?_); refine store_cl rfl 4 _ rfl _ rfl _ k2 rfl Q3.out.hc ?_; intro v4 hc hm; have Q4 := Aside0.mk (Q3.out.setC hc hm); clear hc hm)
        | (go_at_call 82; (with_reducible refine (Hk2.out _).mono ?_); rintro e v3 ⟨rfl, hb⟩; have Q3 := Aside0.mk (Q2.out.move hb); clear hb)
        | ((with_reducible refine gate_load (t := 64) (p := 4) rfl ?_); refine load_cl rfl 4 rfl _ rfl _ Q2.out.hc ?_)
        | ((with_reducible refine gate_storeT (t := 64) (p := 4) rfl ?_); refine store_cl rfl 4 _ rfl _ rfl _ k1 rfl Q1.out.hc ?_; intro v2 hc hm; have Q2 := Aside0.mk (Q1.out.setC hc hm); clear hc hm)
        | (go_at_call 99; (with_reducible refine (Hk1.out _).mono ?_); rintro e v1 ⟨rfl, hb⟩; have Q1 := Aside0.mk (Q0.out.move hb); clear hb)
        | ((with_reducible refine gate_alloc (t := 64) (d := 4) rfl rfl ?_); refine alloc_cl rfl rfl rfl ?_; intro c w2 hgc hc2 hb2; have Q0 := Aside0.mk (QC.new HA1.out HA2.out HA3.out hc2 hgc hb2); clear hgc hc2 hb2)
        | ((with_reducible refine gate_alloc (t := 64) (d := 2) rfl rfl ?_); refine alloc_cl rfl rfl rfl ?_; intro r w1 hgr hc1 hb1; have HA1 := Aside0.mk hc1; have HA2 := Aside0.mk hgr; have HA3 := Aside0.mk hb1; clear hgr hc1 hb1))
      (try simp only [Exit.inBlock, Exit.then])
      refine bodyPost_ret (results_cl2 rfl _ _ rfl rfl Q5.out.hr) rfl ?_
      exact ⟨_, rfl, fun y hy => Option.some.inj hy, Q5.out.below⟩
    · obtain ⟨k1, hk1⟩ : ∃ k, rangeN 48 10 = k := ⟨_, rfl⟩
      have Hk1 : Aside0 (∀ W', Calls Try.prog 99 #[.int .u8 48, .int .u8 57] W' fun e w' => e = .returned (.agg k1.cells) ∧ Below W'.heap.size W' w') := ⟨fun W' => by rw [← hk1]; exact rangeOf.calls 48 57 10 W' (by omega) (by omega) (by omega) (by omega)⟩
      have HP : Aside0 (severalP b = some k1) := ⟨by unfold severalP sevB; rw [HV.out, if_pos q0, Option.map_some, if_neg q9]; unfold sevD; rw [hk1]⟩
      have e0 : (x == 100) = true := beq_iff_eq.2 q0
      have e9 : decide (b < 97) = false := decide_eq_false q9
      rw [HP.out]
      clear q9 q0 hk1
      go_enter Try.func101, Try.ntmps101
      go_wp2_with (first
        | ((with_reducible refine gate_storeT (t := 64) (p := 2) rfl ?_); refine store_cl rfl 2 _ rfl _ rfl _ k1 rfl Q2.out.hr ?_; intro v3 hc hm; have Q3 := Aside0.mk (Q2.out.setR hc hm); clear hc hm)
        | ((with_reducible refine gate_load (t := 64) (p := 4) rfl ?_); refine load_cl rfl 4 rfl _ rfl _ Q2.out.hc ?_)
        | ((with_reducible refine gate_storeT (t := 64) (p := 4) rfl ?_); refine store_cl rfl 4 _ rfl _ rfl _ k1 rfl Q1.out.hc ?_; intro v2 hc hm; have Q2 := Aside0.mk (Q1.out.setC hc hm); clear hc hm)
        | (go_at_call 99; (with_reducible refine (Hk1.out _).mono ?_); rintro e v1 ⟨rfl, hb⟩; have Q1 := Aside0.mk (Q0.out.move hb); clear hb)
        | ((with_reducible refine gate_alloc (t := 64) (d := 4) rfl rfl ?_); refine alloc_cl rfl rfl rfl ?_; intro c w2 hgc hc2 hb2; have Q0 := Aside0.mk (QC.new HA1.out HA2.out HA3.out hc2 hgc hb2); clear hgc hc2 hb2)
        | ((with_reducible refine gate_alloc (t := 64) (d := 2) rfl rfl ?_); refine alloc_cl rfl rfl rfl ?_; intro r w1 hgr hc1 hb1; have HA1 := Aside0.mk hc1; have HA2 := Aside0.mk hgr; have HA3 := Aside0.mk hb1; clear hgr hc1 hb1))
      (try simp only [Exit.inBlock, Exit.then])
      refine bodyPost_ret (results_cl2 rfl _ _ rfl rfl Q3.out.hr) rfl ?_
      exact ⟨_, rfl, fun y hy => Option.some.inj hy, Q3.out.below⟩
  by_cases q1 : x = 119
  · by_cases q9 : b < 97
    · obtain ⟨k1, hk1⟩ : ∃ k, rangeN 48 10 = k := ⟨_, rfl⟩
      have Hk1 : Aside0 (∀ W', Calls Try.prog 99 #[.int .u8 48, .int .u8 57] W' fun e w' => e = .returned (.agg k1.cells) ∧ Below W'.heap.size W' w') := ⟨fun W' => by rw [← hk1]; exact rangeOf.calls 48 57 10 W' (by omega) (by omega) (by omega) (by omega)⟩
      obtain ⟨k2, hk2⟩ : ∃ k, rangeN 97 26 = k := ⟨_, rfl⟩
      have Hk2 : Aside0 (∀ W', Calls Try.prog 99 #[.int .u8 97, .int .u8 122] W' fun e w' => e = .returned (.agg k2.cells) ∧ Below W'.heap.size W' w') := ⟨fun W' => by rw [← hk2]; exact rangeOf.calls 97 122 26 W' (by omega) (by omega) (by omega) (by omega)⟩
      obtain ⟨k3, hk3⟩ : ∃ k, joinN k1 k2 4 = k := ⟨_, rfl⟩
      have Hk3 : Aside0 (∀ W', Calls Try.prog 100 #[.agg k1.cells, .agg k2.cells] W' fun e w' => e = .returned (.agg k3.cells) ∧ Below W'.heap.size W' w') := ⟨fun W' => by rw [← hk3]; exact join.calls k1 k2 W'⟩
      obtain ⟨k4, hk4⟩ : ∃ k, rangeN 65 26 = k := ⟨_, rfl⟩
      have Hk4 : Aside0 (∀ W', Calls Try.prog 99 #[.int .u8 65, .int .u8 90] W' fun e w' => e = .returned (.agg k4.cells) ∧ Below W'.heap.size W' w') := ⟨fun W' => by rw [← hk4]; exact rangeOf.calls 65 90 26 W' (by omega) (by omega) (by omega) (by omega)⟩
      obtain ⟨k5, hk5⟩ : ∃ k, joinN k3 k4 4 = k := ⟨_, rfl⟩
      have Hk5 : Aside0 (∀ W', Calls Try.prog 100 #[.agg k3.cells, .agg k4.cells] W' fun e w' => e = .returned (.agg k5.cells) ∧ Below W'.heap.size W' w') := ⟨fun W' => by rw [← hk5]; exact join.calls k3 k4 W'⟩
      obtain ⟨k6, hk6⟩ : ∃ k, onlyC 95 = k := ⟨_, rfl⟩
      have Hk6 : Aside0 (∀ W', Calls Try.prog 81 #[.int .u8 95] W' fun e w' => e = .returned (.agg k6.cells) ∧ Below W'.heap.size W' w') := ⟨fun W' => by rw [← hk6]; exact only.calls 95 W' (by omega) (by omega)⟩
      obtain ⟨k7, hk7⟩ : ∃ k, joinN k5 k6 4 = k := ⟨_, rfl⟩
      have Hk7 : Aside0 (∀ W', Calls Try.prog 100 #[.agg k5.cells, .agg k6.cells] W' fun e w' => e = .returned (.agg k7.cells) ∧ Below W'.heap.size W' w') := ⟨fun W' => by rw [← hk7]; exact join.calls k5 k6 W'⟩
      obtain ⟨k8, hk8⟩ : ∃ k, othersN k7 4 = k := ⟨_, rfl⟩
      have Hk8 : Aside0 (∀ W', Calls Try.prog 82 #[.agg k7.cells] W' fun e w' => e = .returned (.agg k8.cells) ∧ Below W'.heap.size W' w') := ⟨fun W' => by rw [← hk8]; exact others.calls k7 W'⟩
      have HP : Aside0 (severalP b = some k8) := ⟨by unfold severalP sevB; rw [HV.out, if_neg q0, if_pos q1, Option.map_some, if_pos q9]; unfold sevW; rw [hk1, hk2, hk3, hk4, hk5, hk6, hk7, hk8]⟩
      have e0 : (x == 100) = false := beq_eq_false_iff_ne.2 q0
      have e1 : (x == 119) = true := beq_iff_eq.2 q1
      have e9 : decide (b < 97) = true := decide_eq_true q9
      rw [HP.out]
      clear q9 q0 q1 hk1 hk2 hk3 hk4 hk5 hk6 hk7 hk8
      go_enter Try.func101, Try.ntmps101
      go_wp2_with (first
        | ((with_reducible refine gate_storeT (t := 64) (p := 2) rfl ?_); refine store_cl rfl 2 _ rfl _ rfl _ k8 rfl Q10.out.hr ?_; intro v11 hc hm; have Q11 := Aside0.mk (Q10.out.setR hc hm); clear hc hm)
        | ((with_reducible refine gate_load (t := 64) (p := 4) rfl ?_); refine load_cl rfl 4 rfl _ rfl _ Q10.out.hc ?_)
        | ((with_reducible refine gate_storeT (t := 64) (p := 4) rfl ?_); refine store_cl rfl 4 _ rfl _ rfl _ k8 rfl Q9.out.hc ?_; intro v10 hc hm; have Q10 := Aside0.mk (Q9.out.setC hc hm); clear hc hm)
        | (go_at_call 82; (with_reducible refine (Hk8.out _).mono ?_); rintro e v9 ⟨rfl, hb⟩; have Q9 := Aside0.mk (Q8.out.move hb); clear hb)
        | ((with_reducible refine gate_load (t := 64) (p := 4) rfl ?_); refine load_cl rfl 4 rfl _ rfl _ Q8.out.hc ?_)
        | ((with_reducible refine gate_storeT (t := 64) (p := 4) rfl ?_); refine store_cl rfl 4 _ rfl _ rfl _ k7 rfl Q7.out.hc ?_; intro v8 hc hm; have Q8 := Aside0.mk (Q7.out.setC hc hm); clear hc hm)
        | (go_at_call 100; (with_reducible refine (Hk7.out _).mono ?_); rintro e v7 ⟨rfl, hb⟩; have Q7 := Aside0.mk (Q6.out.move hb); clear hb)
        | (go_at_call 81; (with_reducible refine (Hk6.out _).mono ?_); rintro e v6 ⟨rfl, hb⟩; have Q6 := Aside0.mk (Q5.out.move hb); clear hb)
        | (go_at_call 100; (with_reducible refine (Hk5.out _).mono ?_); rintro e v5 ⟨rfl, hb⟩; have Q5 := Aside0.mk (Q4.out.move hb); clear hb)
        | (go_at_call 99; (with_reducible refine (Hk4.out _).mono ?_); rintro e v4 ⟨rfl, hb⟩; have Q4 := Aside0.mk (Q3.out.move hb); clear hb)
        | (go_at_call 100; (with_reducible refine (Hk3.out _).mono ?_); rintro e v3 ⟨rfl, hb⟩; have Q3 := Aside0.mk (Q2.out.move hb); clear hb)
        | (go_at_call 99; (with_reducible refine (Hk2.out _).mono ?_); rintro e v2 ⟨rfl, hb⟩; have Q2 := Aside0.mk (Q1.out.move hb); clear hb)
        | (go_at_call 99; (with_reducible refine (Hk1.out _).mono ?_); rintro e v1 ⟨rfl, hb⟩; have Q1 := Aside0.mk (Q0.out.move hb); clear hb)
        | ((with_reducible refine gate_alloc (t := 64) (d := 4) rfl rfl ?_); refine alloc_cl rfl rfl rfl ?_; intro c w2 hgc hc2 hb2; have Q0 := Aside0.mk (QC.new HA1.out HA2.out HA3.out hc2 hgc hb2); clear hgc hc2 hb2)
        | ((with_reducible refine gate_alloc (t := 64) (d := 2) rfl rfl ?_); refine alloc_cl rfl rfl rfl ?_; intro r w1 hgr hc1 hb1; have HA1 := Aside0.mk hc1; have HA2 := Aside0.mk hgr; have HA3 := Aside0.mk hb1; clear hgr hc1 hb1))
      (try simp only [Exit.inBlock, Exit.then])
      refine bodyPost_ret (results_cl2 rfl _ _ rfl rfl Q11.out.hr) rfl ?_
      exact ⟨_, rfl, fun y hy => Option.some.inj hy, Q11.out.below⟩
    · obtain ⟨k1, hk1⟩ : ∃ k, rangeN 48 10 = k := ⟨_, rfl⟩
      have Hk1 : Aside0 (∀ W', Calls Try.prog 99 #[.int .u8 48, .int .u8 57] W' fun e w' => e = .returned (.agg k1.cells) ∧ Below W'.heap.size W' w') := ⟨fun W' => by rw [← hk1]; exact rangeOf.calls 48 57 10 W' (by omega) (by omega) (by omega) (by omega)⟩
      obtain ⟨k2, hk2⟩ : ∃ k, rangeN 97 26 = k := ⟨_, rfl⟩
      have Hk2 : Aside0 (∀ W', Calls Try.prog 99 #[.int .u8 97, .int .u8 122] W' fun e w' => e = .returned (.agg k2.cells) ∧ Below W'.heap.size W' w') := ⟨fun W' => by rw [← hk2]; exact rangeOf.calls 97 122 26 W' (by omega) (by omega) (by omega) (by omega)⟩
      obtain ⟨k3, hk3⟩ : ∃ k, joinN k1 k2 4 = k := ⟨_, rfl⟩
      have Hk3 : Aside0 (∀ W', Calls Try.prog 100 #[.agg k1.cells, .agg k2.cells] W' fun e w' => e = .returned (.agg k3.cells) ∧ Below W'.heap.size W' w') := ⟨fun W' => by rw [← hk3]; exact join.calls k1 k2 W'⟩
      obtain ⟨k4, hk4⟩ : ∃ k, rangeN 65 26 = k := ⟨_, rfl⟩
      have Hk4 : Aside0 (∀ W', Calls Try.prog 99 #[.int .u8 65, .int .u8 90] W' fun e w' => e = .returned (.agg k4.cells) ∧ Below W'.heap.size W' w') := ⟨fun W' => by rw [← hk4]; exact rangeOf.calls 65 90 26 W' (by omega) (by omega) (by omega) (by omega)⟩
      obtain ⟨k5, hk5⟩ : ∃ k, joinN k3 k4 4 = k := ⟨_, rfl⟩
      have Hk5 : Aside0 (∀ W', Calls Try.prog 100 #[.agg k3.cells, .agg k4.cells] W' fun e w' => e = .returned (.agg k5.cells) ∧ Below W'.heap.size W' w') := ⟨fun W' => by rw [← hk5]; exact join.calls k3 k4 W'⟩
      obtain ⟨k6, hk6⟩ : ∃ k, onlyC 95 = k := ⟨_, rfl⟩
      have Hk6 : Aside0 (∀ W', Calls Try.prog 81 #[.int .u8 95] W' fun e w' => e = .returned (.agg k6.cells) ∧ Below W'.heap.size W' w') := ⟨fun W' => by rw [← hk6]; exact only.calls 95 W' (by omega) (by omega)⟩
      obtain ⟨k7, hk7⟩ : ∃ k, joinN k5 k6 4 = k := ⟨_, rfl⟩
      have Hk7 : Aside0 (∀ W', Calls Try.prog 100 #[.agg k5.cells, .agg k6.cells] W' fun e w' => e = .returned (.agg k7.cells) ∧ Below W'.heap.size W' w') := ⟨fun W' => by rw [← hk7]; exact join.calls k5 k6 W'⟩
      have HP : Aside0 (severalP b = some k7) := ⟨by unfold severalP sevB; rw [HV.out, if_neg q0, if_pos q1, Option.map_some, if_neg q9]; unfold sevW; rw [hk1, hk2, hk3, hk4, hk5, hk6, hk7]⟩
      have e0 : (x == 100) = false := beq_eq_false_iff_ne.2 q0
      have e1 : (x == 119) = true := beq_iff_eq.2 q1
      have e9 : decide (b < 97) = false := decide_eq_false q9
      rw [HP.out]
      clear q9 q0 q1 hk1 hk2 hk3 hk4 hk5 hk6 hk7
      go_enter Try.func101, Try.ntmps101
      go_wp2_with (first
        | ((with_reducible refine gate_storeT (t := 64) (p := 2) rfl ?_); refine store_cl rfl 2 _ rfl _ rfl _ k7 rfl Q8.out.hr ?_; intro v9 hc hm; have Q9 := Aside0.mk (Q8.out.setR hc hm); clear hc hm)
        | ((with_reducible refine gate_load (t := 64) (p := 4) rfl ?_); refine load_cl rfl 4 rfl _ rfl _ Q8.out.hc ?_)
        | ((with_reducible refine gate_storeT (t := 64) (p := 4) rfl ?_); refine store_cl rfl 4 _ rfl _ rfl _ k7 rfl Q7.out.hc ?_; intro v8 hc hm; have Q8 := Aside0.mk (Q7.out.setC hc hm); clear hc hm)
        | (go_at_call 100; (with_reducible refine (Hk7.out _).mono ?_); rintro e v7 ⟨rfl, hb⟩; have Q7 := Aside0.mk (Q6.out.move hb); clear hb)
        | (go_at_call 81; (with_reducible refine (Hk6.out _).mono ?_); rintro e v6 ⟨rfl, hb⟩; have Q6 := Aside0.mk (Q5.out.move hb); clear hb)
        | (go_at_call 100; (with_reducible refine (Hk5.out _).mono ?_); rintro e v5 ⟨rfl, hb⟩; have Q5 := Aside0.mk (Q4.out.move hb); clear hb)
        | (go_at_call 99; (with_reducible refine (Hk4.out _).mono ?_); rintro e v4 ⟨rfl, hb⟩; have Q4 := Aside0.mk (Q3.out.move hb); clear hb)
        | (go_at_call 100; (with_reducible refine (Hk3.out _).mono ?_); rintro e v3 ⟨rfl, hb⟩; have Q3 := Aside0.mk (Q2.out.move hb); clear hb)
        | (go_at_call 99; (with_reducible refine (Hk2.out _).mono ?_); rintro e v2 ⟨rfl, hb⟩; have Q2 := Aside0.mk (Q1.out.move hb); clear hb)
        | (go_at_call 99; (with_reducible refine (Hk1.out _).mono ?_); rintro e v1 ⟨rfl, hb⟩; have Q1 := Aside0.mk (Q0.out.move hb); clear hb)
        | ((with_reducible refine gate_alloc (t := 64) (d := 4) rfl rfl ?_); refine alloc_cl rfl rfl rfl ?_; intro c w2 hgc hc2 hb2; have Q0 := Aside0.mk (QC.new HA1.out HA2.out HA3.out hc2 hgc hb2); clear hgc hc2 hb2)
        | ((with_reducible refine gate_alloc (t := 64) (d := 2) rfl rfl ?_); refine alloc_cl rfl rfl rfl ?_; intro r w1 hgr hc1 hb1; have HA1 := Aside0.mk hc1; have HA2 := Aside0.mk hgr; have HA3 := Aside0.mk hb1; clear hgr hc1 hb1))
      (try simp only [Exit.inBlock, Exit.then])
      refine bodyPost_ret (results_cl2 rfl _ _ rfl rfl Q9.out.hr) rfl ?_
      exact ⟨_, rfl, fun y hy => Option.some.inj hy, Q9.out.below⟩
  by_cases q2 : x = 115
  · by_cases q9 : b < 97
    · obtain ⟨k1, hk1⟩ : ∃ k, onlyC 9 = k := ⟨_, rfl⟩
      have Hk1 : Aside0 (∀ W', Calls Try.prog 81 #[.int .u8 9] W' fun e w' => e = .returned (.agg k1.cells) ∧ Below W'.heap.size W' w') := ⟨fun W' => by rw [← hk1]; exact only.calls 9 W' (by omega) (by omega)⟩
      obtain ⟨k2, hk2⟩ : ∃ k, onlyC 10 = k := ⟨_, rfl⟩
      have Hk2 : Aside0 (∀ W', Calls Try.prog 81 #[.int .u8 10] W' fun e w' => e = .returned (.agg k2.cells) ∧ Below W'.heap.size W' w') := ⟨fun W' => by rw [← hk2]; exact only.calls 10 W' (by omega) (by omega)⟩
      obtain ⟨k3, hk3⟩ : ∃ k, joinN k1 k2 4 = k := ⟨_, rfl⟩
      have Hk3 : Aside0 (∀ W', Calls Try.prog 100 #[.agg k1.cells, .agg k2.cells] W' fun e w' => e = .returned (.agg k3.cells) ∧ Below W'.heap.size W' w') := ⟨fun W' => by rw [← hk3]; exact join.calls k1 k2 W'⟩
      obtain ⟨k4, hk4⟩ : ∃ k, onlyC 13 = k := ⟨_, rfl⟩
      have Hk4 : Aside0 (∀ W', Calls Try.prog 81 #[.int .u8 13] W' fun e w' => e = .returned (.agg k4.cells) ∧ Below W'.heap.size W' w') := ⟨fun W' => by rw [← hk4]; exact only.calls 13 W' (by omega) (by omega)⟩
      obtain ⟨k5, hk5⟩ : ∃ k, joinN k3 k4 4 = k := ⟨_, rfl⟩
      have Hk5 : Aside0 (∀ W', Calls Try.prog 100 #[.agg k3.cells, .agg k4.cells] W' fun e w' => e = .returned (.agg k5.cells) ∧ Below W'.heap.size W' w') := ⟨fun W' => by rw [← hk5]; exact join.calls k3 k4 W'⟩
      obtain ⟨k6, hk6⟩ : ∃ k, onlyC 32 = k := ⟨_, rfl⟩
      have Hk6 : Aside0 (∀ W', Calls Try.prog 81 #[.int .u8 32] W' fun e w' => e = .returned (.agg k6.cells) ∧ Below W'.heap.size W' w') := ⟨fun W' => by rw [← hk6]; exact only.calls 32 W' (by omega) (by omega)⟩
      obtain ⟨k7, hk7⟩ : ∃ k, joinN k5 k6 4 = k := ⟨_, rfl⟩
      have Hk7 : Aside0 (∀ W', Calls Try.prog 100 #[.agg k5.cells, .agg k6.cells] W' fun e w' => e = .returned (.agg k7.cells) ∧ Below W'.heap.size W' w') := ⟨fun W' => by rw [← hk7]; exact join.calls k5 k6 W'⟩
      obtain ⟨k8, hk8⟩ : ∃ k, othersN k7 4 = k := ⟨_, rfl⟩
      have Hk8 : Aside0 (∀ W', Calls Try.prog 82 #[.agg k7.cells] W' fun e w' => e = .returned (.agg k8.cells) ∧ Below W'.heap.size W' w') := ⟨fun W' => by rw [← hk8]; exact others.calls k7 W'⟩
      have HP : Aside0 (severalP b = some k8) := ⟨by unfold severalP sevB; rw [HV.out, if_neg q0, if_neg q1, if_pos q2, Option.map_some, if_pos q9]; unfold sevS; rw [hk1, hk2, hk3, hk4, hk5, hk6, hk7, hk8]⟩
      have e0 : (x == 100) = false := beq_eq_false_iff_ne.2 q0
      have e1 : (x == 119) = false := beq_eq_false_iff_ne.2 q1
      have e2 : (x == 115) = true := beq_iff_eq.2 q2
      have e9 : decide (b < 97) = true := decide_eq_true q9
      rw [HP.out]
      clear q9 q0 q1 q2 hk1 hk2 hk3 hk4 hk5 hk6 hk7 hk8
      go_enter Try.func101, Try.ntmps101
      go_wp2_with (first
        | ((with_reducible refine gate_storeT (t := 64) (p := 2) rfl ?_); refine store_cl rfl 2 _ rfl _ rfl _ k8 rfl Q10.out.hr ?_; intro v11 hc hm; have Q11 := Aside0.mk (Q10.out.setR hc hm); clear hc hm)
        | ((with_reducible refine gate_load (t := 64) (p := 4) rfl ?_); refine load_cl rfl 4 rfl _ rfl _ Q10.out.hc ?_)
        | ((with_reducible refine gate_storeT (t := 64) (p := 4) rfl ?_); refine store_cl rfl 4 _ rfl _ rfl _ k8 rfl Q9.out.hc ?_; intro v10 hc hm; have Q10 := Aside0.mk (Q9.out.setC hc hm); clear hc hm)
        | (go_at_call 82; (with_reducible refine (Hk8.out _).mono ?_); rintro e v9 ⟨rfl, hb⟩; have Q9 := Aside0.mk (Q8.out.move hb); clear hb)
        | ((with_reducible refine gate_load (t := 64) (p := 4) rfl ?_); refine load_cl rfl 4 rfl _ rfl _ Q8.out.hc ?_)
        | ((with_reducible refine gate_storeT (t := 64) (p := 4) rfl ?_); refine store_cl rfl 4 _ rfl _ rfl _ k7 rfl Q7.out.hc ?_; intro v8 hc hm; have Q8 := Aside0.mk (Q7.out.setC hc hm); clear hc hm)
        | (go_at_call 100; (with_reducible refine (Hk7.out _).mono ?_); rintro e v7 ⟨rfl, hb⟩; have Q7 := Aside0.mk (Q6.out.move hb); clear hb)
        | (go_at_call 81; (with_reducible refine (Hk6.out _).mono ?_); rintro e v6 ⟨rfl, hb⟩; have Q6 := Aside0.mk (Q5.out.move hb); clear hb)
        | (go_at_call 100; (with_reducible refine (Hk5.out _).mono ?_); rintro e v5 ⟨rfl, hb⟩; have Q5 := Aside0.mk (Q4.out.move hb); clear hb)
        | (go_at_call 81; (with_reducible refine (Hk4.out _).mono ?_); rintro e v4 ⟨rfl, hb⟩; have Q4 := Aside0.mk (Q3.out.move hb); clear hb)
        | (go_at_call 100; (with_reducible refine (Hk3.out _).mono ?_); rintro e v3 ⟨rfl, hb⟩; have Q3 := Aside0.mk (Q2.out.move hb); clear hb)
        | (go_at_call 81; (with_reducible refine (Hk2.out _).mono ?_); rintro e v2 ⟨rfl, hb⟩; have Q2 := Aside0.mk (Q1.out.move hb); clear hb)
        | (go_at_call 81; (with_reducible refine (Hk1.out _).mono ?_); rintro e v1 ⟨rfl, hb⟩; have Q1 := Aside0.mk (Q0.out.move hb); clear hb)
        | ((with_reducible refine gate_alloc (t := 64) (d := 4) rfl rfl ?_); refine alloc_cl rfl rfl rfl ?_; intro c w2 hgc hc2 hb2; have Q0 := Aside0.mk (QC.new HA1.out HA2.out HA3.out hc2 hgc hb2); clear hgc hc2 hb2)
        | ((with_reducible refine gate_alloc (t := 64) (d := 2) rfl rfl ?_); refine alloc_cl rfl rfl rfl ?_; intro r w1 hgr hc1 hb1; have HA1 := Aside0.mk hc1; have HA2 := Aside0.mk hgr; have HA3 := Aside0.mk hb1; clear hgr hc1 hb1))
      (try simp only [Exit.inBlock, Exit.then])
      refine bodyPost_ret (results_cl2 rfl _ _ rfl rfl Q11.out.hr) rfl ?_
      exact ⟨_, rfl, fun y hy => Option.some.inj hy, Q11.out.below⟩
    · obtain ⟨k1, hk1⟩ : ∃ k, onlyC 9 = k := ⟨_, rfl⟩
      have Hk1 : Aside0 (∀ W', Calls Try.prog 81 #[.int .u8 9] W' fun e w' => e = .returned (.agg k1.cells) ∧ Below W'.heap.size W' w') := ⟨fun W' => by rw [← hk1]; exact only.calls 9 W' (by omega) (by omega)⟩
      obtain ⟨k2, hk2⟩ : ∃ k, onlyC 10 = k := ⟨_, rfl⟩
      have Hk2 : Aside0 (∀ W', Calls Try.prog 81 #[.int .u8 10] W' fun e w' => e = .returned (.agg k2.cells) ∧ Below W'.heap.size W' w') := ⟨fun W' => by rw [← hk2]; exact only.calls 10 W' (by omega) (by omega)⟩
      obtain ⟨k3, hk3⟩ : ∃ k, joinN k1 k2 4 = k := ⟨_, rfl⟩
      have Hk3 : Aside0 (∀ W', Calls Try.prog 100 #[.agg k1.cells, .agg k2.cells] W' fun e w' => e = .returned (.agg k3.cells) ∧ Below W'.heap.size W' w') := ⟨fun W' => by rw [← hk3]; exact join.calls k1 k2 W'⟩
      obtain ⟨k4, hk4⟩ : ∃ k, onlyC 13 = k := ⟨_, rfl⟩
      have Hk4 : Aside0 (∀ W', Calls Try.prog 81 #[.int .u8 13] W' fun e w' => e = .returned (.agg k4.cells) ∧ Below W'.heap.size W' w') := ⟨fun W' => by rw [← hk4]; exact only.calls 13 W' (by omega) (by omega)⟩
      obtain ⟨k5, hk5⟩ : ∃ k, joinN k3 k4 4 = k := ⟨_, rfl⟩
      have Hk5 : Aside0 (∀ W', Calls Try.prog 100 #[.agg k3.cells, .agg k4.cells] W' fun e w' => e = .returned (.agg k5.cells) ∧ Below W'.heap.size W' w') := ⟨fun W' => by rw [← hk5]; exact join.calls k3 k4 W'⟩
      obtain ⟨k6, hk6⟩ : ∃ k, onlyC 32 = k := ⟨_, rfl⟩
      have Hk6 : Aside0 (∀ W', Calls Try.prog 81 #[.int .u8 32] W' fun e w' => e = .returned (.agg k6.cells) ∧ Below W'.heap.size W' w') := ⟨fun W' => by rw [← hk6]; exact only.calls 32 W' (by omega) (by omega)⟩
      obtain ⟨k7, hk7⟩ : ∃ k, joinN k5 k6 4 = k := ⟨_, rfl⟩
      have Hk7 : Aside0 (∀ W', Calls Try.prog 100 #[.agg k5.cells, .agg k6.cells] W' fun e w' => e = .returned (.agg k7.cells) ∧ Below W'.heap.size W' w') := ⟨fun W' => by rw [← hk7]; exact join.calls k5 k6 W'⟩
      have HP : Aside0 (severalP b = some k7) := ⟨by unfold severalP sevB; rw [HV.out, if_neg q0, if_neg q1, if_pos q2, Option.map_some, if_neg q9]; unfold sevS; rw [hk1, hk2, hk3, hk4, hk5, hk6, hk7]⟩
      have e0 : (x == 100) = false := beq_eq_false_iff_ne.2 q0
      have e1 : (x == 119) = false := beq_eq_false_iff_ne.2 q1
      have e2 : (x == 115) = true := beq_iff_eq.2 q2
      have e9 : decide (b < 97) = false := decide_eq_false q9
      rw [HP.out]
      clear q9 q0 q1 q2 hk1 hk2 hk3 hk4 hk5 hk6 hk7
      go_enter Try.func101, Try.ntmps101
      go_wp2_with (first
        | ((with_reducible refine gate_storeT (t := 64) (p := 2) rfl ?_); refine store_cl rfl 2 _ rfl _ rfl _ k7 rfl Q8.out.hr ?_; intro v9 hc hm; have Q9 := Aside0.mk (Q8.out.setR hc hm); clear hc hm)
        | ((with_reducible refine gate_load (t := 64) (p := 4) rfl ?_); refine load_cl rfl 4 rfl _ rfl _ Q8.out.hc ?_)
        | ((with_reducible refine gate_storeT (t := 64) (p := 4) rfl ?_); refine store_cl rfl 4 _ rfl _ rfl _ k7 rfl Q7.out.hc ?_; intro v8 hc hm; have Q8 := Aside0.mk (Q7.out.setC hc hm); clear hc hm)
        | (go_at_call 100; (with_reducible refine (Hk7.out _).mono ?_); rintro e v7 ⟨rfl, hb⟩; have Q7 := Aside0.mk (Q6.out.move hb); clear hb)
        | (go_at_call 81; (with_reducible refine (Hk6.out _).mono ?_); rintro e v6 ⟨rfl, hb⟩; have Q6 := Aside0.mk (Q5.out.move hb); clear hb)
        | (go_at_call 100; (with_reducible refine (Hk5.out _).mono ?_); rintro e v5 ⟨rfl, hb⟩; have Q5 := Aside0.mk (Q4.out.move hb); clear hb)
        | (go_at_call 81; (with_reducible refine (Hk4.out _).mono ?_); rintro e v4 ⟨rfl, hb⟩; have Q4 := Aside0.mk (Q3.out.move hb); clear hb)
        | (go_at_call 100; (with_reducible refine (Hk3.out _).mono ?_); rintro e v3 ⟨rfl, hb⟩; have Q3 := Aside0.mk (Q2.out.move hb); clear hb)
        | (go_at_call 81; (with_reducible refine (Hk2.out _).mono ?_); rintro e v2 ⟨rfl, hb⟩; have Q2 := Aside0.mk (Q1.out.move hb); clear hb)
        | (go_at_call 81; (with_reducible refine (Hk1.out _).mono ?_); rintro e v1 ⟨rfl, hb⟩; have Q1 := Aside0.mk (Q0.out.move hb); clear hb)
        | ((with_reducible refine gate_alloc (t := 64) (d := 4) rfl rfl ?_); refine alloc_cl rfl rfl rfl ?_; intro c w2 hgc hc2 hb2; have Q0 := Aside0.mk (QC.new HA1.out HA2.out HA3.out hc2 hgc hb2); clear hgc hc2 hb2)
        | ((with_reducible refine gate_alloc (t := 64) (d := 2) rfl rfl ?_); refine alloc_cl rfl rfl rfl ?_; intro r w1 hgr hc1 hb1; have HA1 := Aside0.mk hc1; have HA2 := Aside0.mk hgr; have HA3 := Aside0.mk hb1; clear hgr hc1 hb1))
      (try simp only [Exit.inBlock, Exit.then])
      refine bodyPost_ret (results_cl2 rfl _ _ rfl rfl Q9.out.hr) rfl ?_
      exact ⟨_, rfl, fun y hy => Option.some.inj hy, Q9.out.below⟩
  have HP : Aside0 (severalP b = none) := ⟨by unfold severalP sevB; rw [HV.out, if_neg q0, if_neg q1, if_neg q2]; rfl⟩
  have e0 : (x == 100) = false := beq_eq_false_iff_ne.2 q0
  have e1 : (x == 119) = false := beq_eq_false_iff_ne.2 q1
  have e2 : (x == 115) = false := beq_eq_false_iff_ne.2 q2
  rw [HP.out]
  clear q0 q1 q2
  go_enter Try.func101, Try.ntmps101
  go_wp2_with (first
    | ((with_reducible refine gate_storeT (t := 64) (p := 2) rfl ?_); refine store_cl rfl 2 _ rfl _ rfl _ C4.nil rfl Q0.out.hr ?_; intro v1 hc hm; have Q1 := Aside0.mk (Q0.out.setR hc hm); clear hc hm)
    | ((with_reducible refine gate_load (t := 64) (p := 4) rfl ?_); refine load_cl rfl 4 rfl _ rfl _ Q0.out.hc ?_)
    | ((with_reducible refine gate_alloc (t := 64) (d := 4) rfl rfl ?_); refine alloc_cl rfl rfl rfl ?_; intro c w2 hgc hc2 hb2; have Q0 := Aside0.mk (QC.new HA1.out HA2.out HA3.out hc2 hgc hb2); clear hgc hc2 hb2)
    | ((with_reducible refine gate_alloc (t := 64) (d := 2) rfl rfl ?_); refine alloc_cl rfl rfl rfl ?_; intro r w1 hgr hc1 hb1; have HA1 := Aside0.mk hc1; have HA2 := Aside0.mk hgr; have HA3 := Aside0.mk hb1; clear hgr hc1 hb1))
  (try simp only [Exit.inBlock, Exit.then])
  refine bodyPost_ret (results_cl2 rfl _ _ rfl rfl Q1.out.hr) rfl ?_
  exact ⟨_, rfl, (fun y hy => by cases hy), Q1.out.below⟩
/-- The value of a hexadecimal digit. -/
def digP (b : Int) : Int := if 48 ≤ b ∧ b ≤ 57 then b - 48 else if 97 ≤ low8 b ∧ low8 b ≤ 102 then low8 b - 97 + 10 else -1
theorem low8_range {b : Int} (h0 : 0 ≤ b) (h1 : b ≤ 255) : 0 ≤ low8 b ∧ low8 b ≤ 255 := by
  have := (by decide +kernel : ∀ n : Fin 256, 0 ≤ Go.bits .or .u8 ((n.val : Nat) : Int) 32 ∧ Go.bits .or .u8 ((n.val : Nat) : Int) 32 ≤ 255) ⟨b.toNat, by omega⟩
  simpa [Int.toNat_of_nonneg h0, low8] using this
set_option maxHeartbeats 4000000 in
theorem digitOf.calls (b : Int) (W : World) (h0 : 0 ≤ b) (h1 : b ≤ 255) : Calls Try.prog 109 #[.int .u8 b] W fun e w' => e = .returned (.int .i64 (digP b)) ∧ w' = W := by
  have HL := low8_range h0 h1
  have HV : Aside0 (low8 b = Go.bits .or .u8 b 32) := ⟨rfl⟩
  obtain ⟨x, hx⟩ : ∃ x, Go.bits .or .u8 b 32 = x := ⟨_, rfl⟩
  rw [hx] at HV
  rw [HV.out] at HL
  have HD : Aside0 (digP b = if 48 ≤ b ∧ b ≤ 57 then b - 48 else if 97 ≤ x ∧ x ≤ 102 then x - 97 + 10 else -1) := ⟨by unfold digP; rw [HV.out]⟩
  have w1 : 48 ≤ b → IntKind.u8.wrap (b - 48) = b - 48 := fun h => by rw [IntKind.wrap_u8]; omega
  have w2 : 97 ≤ x → IntKind.u8.wrap (x - 97) = x - 97 := fun h => by rw [IntKind.wrap_u8]; omega
  have w3 : 48 ≤ b → IntKind.i64.wrap (b - 48) = b - 48 := fun h => by rw [IntKind.wrap_i64]; omega
  have w4 : 97 ≤ x → IntKind.i64.wrap (x - 97) = x - 97 := fun h => by rw [IntKind.wrap_i64]; omega
  have w5 : 97 ≤ x → IntKind.i64.wrap (x - 97 + 10) = x - 97 + 10 := fun h => by rw [IntKind.wrap_i64]; omega
  have HW1 := Aside0.mk w1
  have HW2 := Aside0.mk w2
  have HW3 := Aside0.mk w3
  have HW4 := Aside0.mk w4
  have HW5 := Aside0.mk w5
  clear w1 w2 w3 w4 w5 HL
  have go : ∀ (t1 t2 : Bool), decide (48 ≤ b) = t1 → decide (b ≤ 57) = t2 → True := fun _ _ _ _ => trivial
  clear go
  by_cases c1 : 48 ≤ b
  · by_cases c2 : b ≤ 57
    · have e1 : decide (48 ≤ b) = true := decide_eq_true c1
      have e2 : decide (b ≤ 57) = true := decide_eq_true c2
      have w1 := HW1.out c1
      have w3 := HW3.out c1
      rw [HD.out, if_pos ⟨c1, c2⟩]
      go_enter Try.func109, Try.ntmps109
      go_wp2
      go_ret
      exact ⟨rfl, rfl⟩
    · have e1 : decide (48 ≤ b) = true := decide_eq_true c1
      have e2 : decide (b ≤ 57) = false := decide_eq_false c2
      rw [HD.out, if_neg (fun h => c2 h.2)]
      by_cases c3 : 97 ≤ x ∧ x ≤ 102
      · have e3 : decide (97 ≤ x) = true := decide_eq_true c3.1
        have e4 : decide (x ≤ 102) = true := decide_eq_true c3.2
        have w2 := HW2.out c3.1
        have w4 := HW4.out c3.1
        have w5 := HW5.out c3.1
        rw [if_pos c3]
        clear c1 c2 c3
        go_enter Try.func109, Try.ntmps109
        go_wp2
        go_ret
        exact ⟨rfl, rfl⟩
      · rw [if_neg c3]
        by_cases c4 : 97 ≤ x
        · have e3 : decide (97 ≤ x) = true := decide_eq_true c4
          have e4 : decide (x ≤ 102) = false := decide_eq_false (fun h => c3 ⟨c4, h⟩)
          clear c1 c2 c3 c4
          go_enter Try.func109, Try.ntmps109
          go_wp2
          go_ret
          exact ⟨rfl, rfl⟩
        · have e3 : decide (97 ≤ x) = false := decide_eq_false c4
          clear c1 c2 c3 c4
          go_enter Try.func109, Try.ntmps109
          go_wp2
          go_ret
          exact ⟨rfl, rfl⟩
  · have e1 : decide (48 ≤ b) = false := decide_eq_false c1
    rw [HD.out, if_neg (fun h => c1 h.1)]
    by_cases c3 : 97 ≤ x ∧ x ≤ 102
    · have e3 : decide (97 ≤ x) = true := decide_eq_true c3.1
      have e4 : decide (x ≤ 102) = true := decide_eq_true c3.2
      have w2 := HW2.out c3.1
      have w4 := HW4.out c3.1
      have w5 := HW5.out c3.1
      rw [if_pos c3]
      clear c1 c3
      go_enter Try.func109, Try.ntmps109
      go_wp2
      go_ret
      exact ⟨rfl, rfl⟩
    · rw [if_neg c3]
      by_cases c4 : 97 ≤ x
      · have e3 : decide (97 ≤ x) = true := decide_eq_true c4
        have e4 : decide (x ≤ 102) = false := decide_eq_false (fun h => c3 ⟨c4, h⟩)
        clear c1 c3 c4
        go_enter Try.func109, Try.ntmps109
        go_wp2
        go_ret
        exact ⟨rfl, rfl⟩
      · have e3 : decide (97 ≤ x) = false := decide_eq_false c4
        clear c1 c3 c4
        go_enter Try.func109, Try.ntmps109
        go_wp2
        go_ret
        exact ⟨rfl, rfl⟩
/-- A class with both cases where these are alike. -/
def casedP (fold : Bool) (c : C4) : C4 := if fold = true then foldN c 26 else c
set_option maxHeartbeats 4000000 in
theorem cased.calls (g p : Nat) (s : ByteArray) (fold : Bool) (c : C4) (W : World) (h : RS W g s p fold) : Calls Try.prog 86 #[.pointer (some ⟨g, 0, none⟩), .agg c.cells] W fun e w' => e = .returned (.agg (casedP fold c).cells) ∧ Below W.heap.size W w' := by
  have HS := Aside0.mk h
  clear h
  have a3 := Aside0.mk (fun (W1 W2 : World) (h1 : Below W.heap.size W W1) (h2 : Below W1.heap.size W1 W2) => (HS.out.move h1).move h2)
  cases fold with
  | false =>
    have HP : Aside0 (casedP false c = c) := ⟨rfl⟩
    rw [HP.out]
    go_enter Try.func86, Try.ntmps86
    go_wp2_with (first
      | ((with_reducible refine gate_load (t := 64) (p := 3) rfl ?_); refine load_cl rfl 3 rfl _ rfl _ Q0.out.hc ?_)
      | ((with_reducible refine gate_storeT (t := 64) (p := 4) rfl ?_); refine store_cl rfl 4 _ rfl _ rfl _ c rfl Q0.out.hr ?_; intro w3 hc hm; have Q1 := Aside0.mk (Q0.out.setR hc hm); clear hc hm)
      | ((with_reducible refine gate_alloc (t := 64) (d := 4) rfl rfl ?_); refine alloc_cl rfl rfl rfl ?_; intro r w2 hgr hc2 hb2; have k2 : w2.cell? ⟨g, 2, none⟩ = some (.bool false) := (blk_cell (a3.out _ _ HA3.out hb2) 2).trans rfl; have Q0 := Aside0.mk (QC.newR HA1.out HA2.out HA3.out hc2 hgr hb2); clear hgr hc2 hb2)
      | ((with_reducible refine gate_box (t := 64) (d := 3) rfl rfl ?_); refine box_cl rfl rfl _ rfl c rfl ?_; intro b w1 hgb hc1 hb1; have HA1 := Aside0.mk hc1; have HA2 := Aside0.mk hgb; have HA3 := Aside0.mk hb1; clear hgb hc1 hb1))
    (try simp only [Exit.inBlock, Exit.then])
    refine bodyPost_ret (results_cl rfl _ _ rfl Q1.out.hr) rfl ?_
    exact ⟨rfl, Q1.out.below⟩
  | true =>
    have HP : Aside0 (casedP true c = foldN c 26) := ⟨rfl⟩
    obtain ⟨d, hd⟩ : ∃ d, foldN c 26 = d := ⟨_, rfl⟩
    have HF : Aside0 (∀ W', Calls Try.prog 103 #[.agg c.cells] W' fun e w' => e = .returned (.agg d.cells) ∧ Below W'.heap.size W' w') := ⟨fun W' => by rw [← hd]; exact folded.calls c W'⟩
    rw [HP.out, hd]
    clear HP hd
    go_enter Try.func86, Try.ntmps86
    go_wp2_with (first
      | ((with_reducible refine gate_load (t := 64) (p := 3) rfl ?_); refine load_cl rfl 3 rfl _ rfl _ Q0.out.hc ?_)
      | (go_at_call 103; (with_reducible refine (HF.out _).mono ?_); rintro e w3 ⟨rfl, hb⟩; have Q1 := Aside0.mk (Q0.out.move hb); clear hb)
      | ((with_reducible refine gate_storeT (t := 64) (p := 4) rfl ?_); refine store_cl rfl 4 _ rfl _ rfl _ d rfl Q1.out.hr ?_; intro w4 hc hm; have Q2 := Aside0.mk (Q1.out.setR hc hm); clear hc hm)
      | ((with_reducible refine gate_alloc (t := 64) (d := 4) rfl rfl ?_); refine alloc_cl rfl rfl rfl ?_; intro r w2 hgr hc2 hb2; have k2 : w2.cell? ⟨g, 2, none⟩ = some (.bool true) := (blk_cell (a3.out _ _ HA3.out hb2) 2).trans rfl; have Q0 := Aside0.mk (QC.newR HA1.out HA2.out HA3.out hc2 hgr hb2); clear hgr hc2 hb2)
      | ((with_reducible refine gate_box (t := 64) (d := 3) rfl rfl ?_); refine box_cl rfl rfl _ rfl c rfl ?_; intro b w1 hgb hc1 hb1; have HA1 := Aside0.mk hc1; have HA2 := Aside0.mk hgb; have HA3 := Aside0.mk hb1; clear hgb hc1 hb1))
    (try simp only [Exit.inBlock, Exit.then])
    refine bodyPost_ret (results_cl rfl _ _ rfl Q2.out.hr) rfl ?_
    exact ⟨rfl, Q2.out.below⟩
end Go.Proofs.Ytclgnefeankbgaa.M
namespace Go.Proofs.Ytclgnefeankbgaa.M
open Go Go.RowKit Go.Proofs.YtclgnefeankbgaaW.PrintWords Go.Proofs.YtclgnefeankbgaaW.PrintLast Go.Proofs.YtclgnefeankbgaaW.PrintMore Hand
attribute [local go_sem] Oper.semAt_some max2_int min2_int max_two min_two max_three min_three max_four min_four
set_option linter.unusedVariables false
set_option linter.unusedSimpArgs false
/-- A reading's end: what was read and the place behind it, or the place that does not fit. -/
inductive Rs (α : Type) where
  | ok (a : α) (p : Nat)
  | bad (n : Nat)
/-- The reader, and classes of the call's own. -/
structure QL (g : Nat) (w W : World) (s : ByteArray) (p : Nat) (fold : Bool) (L : List (Nat × C4)) : Prop where
  lg : g < w.heap.size
  rs : RS W g s p fold
  mv : Mv g w W
  at_ : ∀ (i b : Nat) (c : C4), L[i]? = some (b, c) → w.heap.size ≤ b ∧ ClAt W b c
  nd : (L.map Prod.fst).Nodup
theorem Mv.own {g r : Nat} {A B C : World} (h : Mv g A B) (k : Mv r B C) (hr : A.heap.size ≤ r) : Mv g A C := ⟨k.os.trans h.os, k.tape.trans h.tape, k.output.trans h.output, Nat.le_trans h.size k.size, fun i hi hg => (k.block i (Nat.lt_of_lt_of_le hi h.size) (by omega)).trans (h.block i hi hg)⟩
section
variable {g p q : Nat} {w W W' : World} {s : ByteArray} {fold : Bool} {L : List (Nat × C4)}
theorem QL.nil (h : RS w g s p fold) : QL g w w s p fold [] := ⟨blk_lt h, h, Mv.refl _ _, fun i b c h => by simp at h, by simp⟩
theorem QL.call (h : QL g w W s p fold L) (hb : Below W.heap.size W W') : QL g w W' s p fold L := ⟨h.lg, h.rs.move hb, h.mv.trans (Mv.of_below hb), fun i b c hi => ⟨(h.at_ i b c hi).1, (h.at_ i b c hi).2.move hb⟩, h.nd⟩
theorem QL.rd (h : QL g w W s p fold L) (hr : RS W' g s q fold) (hm : Mv g W W') : QL g w W' s q fold L := ⟨h.lg, hr, h.mv.trans hm, fun i b c hi => ⟨(h.at_ i b c hi).1, (h.at_ i b c hi).2.mv hm (by have := (h.at_ i b c hi).1; have := h.lg; omega)⟩, h.nd⟩
theorem QL.at_p (h : QL g w W s p fold L) (q : Nat) : QL g w (W.setCell ⟨g, 1, none⟩ (.int .i64 (q : Int))) s q fold L := h.rd (h.rs.set q) ((Mv.refl g W).set 1 _)
theorem QL.set (h : QL g w W s p fold L) (i : Nat) {b : Nat} {c c' : C4} (hi : L[i]? = some (b, c)) (hc : ClAt W' b c') (hm : Mv b W W') : QL g w W' s p fold (L.set i (b, c')) := by
  have hb := (h.at_ i b c hi).1
  have hlt := (List.getElem?_eq_some_iff.1 hi).1
  refine ⟨h.lg, h.rs.mv hm (by have := h.lg; omega), h.mv.own hm hb, fun j b2 c2 hj => ?_, ?_⟩
  · rw [List.getElem?_set] at hj
    by_cases e : i = j
    · subst e
      rw [if_pos rfl, if_pos hlt] at hj
      cases hj
      exact ⟨hb, hc⟩
    · rw [if_neg e] at hj
      obtain ⟨h1, h2⟩ := h.at_ j b2 c2 hj
      refine ⟨h1, h2.mv hm (fun e2 => e ?_)⟩
      have hn := List.pairwise_iff_getElem.1 h.nd
      have hjl := (List.getElem?_eq_some_iff.1 hj).1
      have e3 : (L.map Prod.fst)[i]'(by simpa using hlt) = b := by simp [(List.getElem?_eq_some_iff.1 hi).2]
      have e4 : (L.map Prod.fst)[j]'(by simpa using hjl) = b2 := by simp [(List.getElem?_eq_some_iff.1 hj).2]
      rcases Nat.lt_trichotomy i j with h6 | h6 | h6
      · exact absurd (by rw [e3, e4, e2]) (hn i j (by simpa using hlt) (by simpa using hjl) h6)
      · exact h6
      · exact absurd (by rw [e3, e4, e2]) (hn j i (by simpa using hjl) (by simpa using hlt) h6)
  · have e : (L.set i (b, c')).map Prod.fst = L.map Prod.fst := by
      apply List.ext_getElem?
      intro j
      rw [List.getElem?_map, List.getElem?_map, List.getElem?_set]
      by_cases e : i = j
      · subst e
        rw [if_pos rfl, if_pos hlt, hi]
        rfl
      · rw [if_neg e]
    rw [e]
    exact h.nd
theorem QL.push (h : QL g w W s p fold L) {b : Nat} {c : C4} (hb : b = W.heap.size) (hc : ClAt W' b c) (hm : Below W.heap.size W W') : QL g w W' s p fold (L ++ [(b, c)]) := by
  have h' := h.call hm
  refine ⟨h'.lg, h'.rs, h'.mv, fun i b2 c2 hi => ?_, ?_⟩
  · by_cases e : i < L.length
    · rw [List.getElem?_append_left e] at hi
      exact h'.at_ i b2 c2 hi
    · rw [List.getElem?_append_right (by omega)] at hi
      have e0 : i - L.length = 0 := by
        have := (List.getElem?_eq_some_iff.1 hi).1
        simp at this
        omega
      rw [e0] at hi
      cases hi
      exact ⟨by rw [hb]; exact h.mv.size, hc⟩
  · rw [List.map_append, List.nodup_append]
    refine ⟨h.nd, by simp, fun x hx y hy => ?_⟩
    obtain ⟨⟨b2, c2⟩, hm2, rfl⟩ := List.mem_map.1 hx
    obtain ⟨i, hi, he⟩ := List.mem_iff_getElem.1 hm2
    have h3 := blk_lt (h.at_ i b2 c2 (by rw [List.getElem?_eq_getElem hi, he])).2
    have hy2 : y = b := by simpa using hy
    rw [hy2, hb]
    exact Nat.ne_of_lt h3
theorem QL.c0 (h : QL g w W s p fold L) : W.cell? ⟨g, 0, none⟩ = some (.string s) := (blk_cell h.rs 0).trans rfl
theorem QL.c1 (h : QL g w W s p fold L) : W.cell? ⟨g, 1, none⟩ = some (.int .i64 (p : Int)) := (blk_cell h.rs 1).trans rfl
theorem QL.f1 (h : QL g w W s p fold L) : W.frozen? ⟨g, 1, none⟩ = false := blk_frozen h.rs 1
end
theorem seeP_range (s : ByteArray) (p : Nat) : 0 ≤ seeP s p ∧ seeP s p ≤ 255 := by
  unfold seeP
  split
  · exact bt_range s p
  · omega
theorem seeP_lt {s : ByteArray} {p : Nat} (h : seeP s p ≠ 0) : p < s.size := by
  unfold seeP at h
  by_cases c : p < s.size
  · exact c
  · rw [if_neg c] at h; exact absurd rfl h
theorem digP_range {b : Int} (h0 : 0 ≤ b) (h1 : b ≤ 255) : -1 ≤ digP b ∧ digP b ≤ 15 := by
  unfold digP
  split
  · omega
  · split <;> omega
theorem digP_nil : digP 0 = -1 := by decide +kernel
theorem digP_lt {s : ByteArray} {p : Nat} (h : 0 ≤ digP (seeP s p)) : p < s.size := seeP_lt (fun e => by rw [e, digP_nil] at h; omega)
set_option maxHeartbeats 4000000 in
theorem digit.good (g p : Nat) (s : ByteArray) (fold : Bool) (W : World) (h : RS W g s p fold) (hs : s.size ≤ 200) (hk : 0 ≤ digP (seeP s p)) :
    Calls Try.prog 102 #[.pointer (some ⟨g, 0, none⟩)] W fun e w' => e = .returned (.int .u8 (digP (seeP s p))) ∧ RS w' g s (p + 1) fold ∧ Mv g W w' := by
  have hp := digP_lt hk
  have hr := digP_range (seeP_range s p).1 (seeP_range s p).2
  have HQ := Aside0.mk (QL.nil h)
  have HSR := Aside0.mk (seeP_range s p)
  obtain ⟨k, hkk⟩ : ∃ k, digP (seeP s p) = k := ⟨_, rfl⟩
  have HK := Aside0.mk hkk
  rw [hkk] at hk hr ⊢
  have e1 : ¬ k < 0 := by omega
  have w1 : IntKind.i64.wrap ((p : Int) + 1) = (p : Int) + 1 := by rw [IntKind.wrap_i64]; omega
  have w2 : IntKind.u8.wrap k = k := by rw [IntKind.wrap_u8]; omega
  clear h hkk
  go_enter Try.func102, Try.ntmps102
  go_wp2_with (first
    | (go_at_call 79; (with_reducible refine (see.calls g p s fold _ HQ.out.rs).mono ?_); rintro e w1 ⟨rfl, hb⟩; have Q1 := Aside0.mk (HQ.out.call hb); have k1 := (HQ.out.call hb).c1; have f1 := (HQ.out.call hb).f1; clear hb)
    | (go_at_call 109; (with_reducible refine (digitOf.calls _ _ HSR.out.1 HSR.out.2).mono ?_); rintro e w2 ⟨rfl, rfl⟩; have hv2 := HK.out; rw [hv2]; clear hv2))
  go_ret
  exact ⟨rfl, (Q1.out.at_p (p + 1)).rs, (Q1.out.at_p (p + 1)).mv⟩
set_option maxHeartbeats 4000000 in
theorem digit.bad (g p : Nat) (s : ByteArray) (fold : Bool) (W : World) (h : RS W g s p fold) (hk : digP (seeP s p) < 0) :
    Calls Try.prog 102 #[.pointer (some ⟨g, 0, none⟩)] W fun e w' => Bad p e ∧ Mv g W w' := by
  have hr := digP_range (seeP_range s p).1 (seeP_range s p).2
  have HQ := Aside0.mk (QL.nil h)
  have HSR := Aside0.mk (seeP_range s p)
  obtain ⟨k, hkk⟩ : ∃ k, digP (seeP s p) = k := ⟨_, rfl⟩
  have HK := Aside0.mk hkk
  rw [hkk] at hk hr
  clear h hkk
  go_enter Try.func102, Try.ntmps102
  go_wp2_with (first
    | (go_at_call 79; (with_reducible refine (see.calls g p s fold _ HQ.out.rs).mono ?_); rintro e w1 ⟨rfl, hb⟩; have Q1 := Aside0.mk (HQ.out.call hb); have k1 := (HQ.out.call hb).c1; clear hb)
    | (go_at_call 109; (with_reducible refine (digitOf.calls _ _ HSR.out.1 HSR.out.2).mono ?_); rintro e w2 ⟨rfl, rfl⟩; have hv2 := HK.out; rw [hv2]; clear hv2)
    | (go_at_call 52; (with_reducible refine (fail.calls _ p _).mono ?_); rintro e w3 ⟨he, rfl⟩; unfold Bad at he; subst he))
  exact ⟨rfl, rfl, Q1.out.mv⟩
/-- The digits of a number. -/
def numL (s : ByteArray) : Nat → Nat → Int → Int × Nat
  | 0, p, n => (n, p)
  | k + 1, p, n => if 48 ≤ seeP s p ∧ seeP s p ≤ 57 then numL s k (p + 1) (min (n * 10 + (seeP s p - 48)) 61) else (n, p)
def numP (s : ByteArray) (p : Nat) : Int × Nat := numL s (s.size - p) p 0
def numberR (s : ByteArray) (least : Int) (p : Nat) : Rs Int := if (numP s p).2 = p ∨ (numP s p).1 < least ∨ 60 < (numP s p).1 then .bad p else .ok (numP s p).1 (numP s p).2
theorem numL_range (s : ByteArray) : ∀ (k p : Nat) (n : Int), 0 ≤ n ∧ n ≤ 61 → p + k ≤ s.size → 0 ≤ (numL s k p n).1 ∧ (numL s k p n).1 ≤ 61 ∧ p ≤ (numL s k p n).2 ∧ (numL s k p n).2 ≤ s.size
  | 0, p, n, h, hp => ⟨h.1, h.2, Nat.le_refl _, hp⟩
  | k + 1, p, n, h, hp => by
    rw [numL]
    by_cases c : 48 ≤ seeP s p ∧ seeP s p ≤ 57
    · rw [if_pos c]
      have := numL_range s k (p + 1) (min (n * 10 + (seeP s p - 48)) 61) (by omega) (by omega)
      omega
    · rw [if_neg c]
      exact ⟨h.1, h.2, Nat.le_refl _, by omega⟩
/-- What a call that reads leaves. -/
def RPost {α : Type} (g : Nat) (s : ByteArray) (fold : Bool) (W : World) (f : α → Value) (r : Rs α) (e : Ending) (w' : World) : Prop := match r with
  | .ok a q => e = .returned (f a) ∧ RS w' g s q fold ∧ Mv g W w'
  | .bad n => Bad n e ∧ Mv g W w'
theorem RPost.good {α : Type} {g q : Nat} {s : ByteArray} {fold : Bool} {W w' : World} {f : α → Value} {r : Rs α} {a : α} (h : r = .ok a q) (h1 : RS w' g s q fold) (h2 : Mv g W w') : RPost g s fold W f r (.returned (f a)) w' := by subst h; exact ⟨rfl, h1, h2⟩
theorem RPost.bad {α : Type} {g n : Nat} {s : ByteArray} {fold : Bool} {W w' : World} {f : α → Value} {r : Rs α} (h : r = .bad n) (h2 : Mv g W w') : RPost g s fold W f r (.panicked [{ v := .iface 106 (.int .i64 (n : Int)), recovered := false }]) w' := by subst h; exact ⟨rfl, h2⟩
set_option maxHeartbeats 4000000 in
theorem number.calls (g p : Nat) (s : ByteArray) (fold : Bool) (least : Int) (W : World) (h : RS W g s p fold) (hs : s.size ≤ 200) (hp : p ≤ s.size) :
    Calls Try.prog 87 #[.pointer (some ⟨g, 0, none⟩), .int .i64 least] W fun e w' => RPost g s fold W (fun n => .int .i64 n) (numberR s least p) e w' := by
  have HQ := Aside0.mk (QL.nil h)
  obtain ⟨r, hr⟩ : ∃ r, numberR s least p = r := ⟨_, rfl⟩
  have HR := Aside0.mk hr
  rw [hr]
  have HN : Aside0 (numL s (s.size - p) p 0 = numP s p) := ⟨rfl⟩
  have HNR := Aside0.mk (numL_range s (s.size - p) p 0 (by omega) (by omega))
  obtain ⟨n1, p1, hnp⟩ : ∃ n1 p1, numP s p = (n1, p1) := ⟨_, _, rfl⟩
  unfold numberR at HR
  rw [hnp] at HN HR
  rw [HN.out] at HNR
  have k1 := HQ.out.c1
  clear h hr hnp
  go_enter Try.func87, Try.ntmps87
  go_wp2
  clear k1
  go_loopg [6] (s.size - p) (fun kq v6 w' => ∃ (n : Int) (q : Nat), v6 = .int .i64 n ∧ q + kq = s.size ∧ 0 ≤ n ∧ n ≤ 61 ∧ p ≤ q ∧ Aside0 (numL s kq q n = (n1, p1)) ∧ Aside0 (QL g W w' s q fold []))
  case atStart => exact ⟨0, p, rfl, by omega, by omega, by omega, by omega, HN, HQ⟩
  case round =>
    clear HN HQ
    obtain ⟨n, q, rfl, hq, hn0, hn1, hpq, HN, HQ⟩ := hrel
    have HSR := Aside0.mk (seeP_range s q)
    by_cases c : 48 ≤ seeP s q ∧ seeP s q ≤ 57
    · have hlt : q < s.size := seeP_lt (by omega)
      obtain ⟨k, rfl⟩ : ∃ k, gk = k + 1 := ⟨gk - 1, by omega⟩
      have HN2 := HN.out
      rw [numL, if_pos c] at HN2
      have HN3 := Aside0.mk HN2
      obtain ⟨x, hx⟩ : ∃ x, seeP s q = x := ⟨_, rfl⟩
      have HX := Aside0.mk hx
      rw [hx] at c HN3
      have e1 := c.1
      have e2 := c.2
      have w1 : IntKind.u8.wrap (x - 48) = x - 48 := by rw [IntKind.wrap_u8]; omega
      have w2 : IntKind.i64.wrap (x - 48) = x - 48 := by rw [IntKind.wrap_i64]; omega
      have w3 : IntKind.i64.wrap (n * 10) = n * 10 := by rw [IntKind.wrap_i64]; omega
      have w4 : IntKind.i64.wrap (n * 10 + (x - 48)) = n * 10 + (x - 48) := by rw [IntKind.wrap_i64]; omega
      have w5 : IntKind.i64.wrap ((q : Int) + 1) = (q : Int) + 1 := by rw [IntKind.wrap_i64]; omega
      clear hx c HN HN2
      go_wp2_with (first
        | (go_at_call 79; (with_reducible refine (see.calls g q s fold _ Q2.out.rs).mono ?_); rintro e w3 ⟨rfl, hb⟩; have Q3 := Aside0.mk (Q2.out.call hb); have k1 := (Q2.out.call hb).c1; have f1 := (Q2.out.call hb).f1; clear hb; have hv2 := HX.out; rw [hv2]; clear hv2)
        | (go_at_call 79; (with_reducible refine (see.calls g q s fold _ Q1.out.rs).mono ?_); rintro e w2 ⟨rfl, hb⟩; have Q2 := Aside0.mk (Q1.out.call hb); have k1 := (Q1.out.call hb).c1; have f1 := (Q1.out.call hb).f1; clear hb; have hv2 := HX.out; rw [hv2]; clear hv2)
        | (go_at_call 79; (with_reducible refine (see.calls g q s fold _ HQ.out.rs).mono ?_); rintro e w1 ⟨rfl, hb⟩; have Q1 := Aside0.mk (HQ.out.call hb); have k1 := (HQ.out.call hb).c1; have f1 := (HQ.out.call hb).f1; clear hb; have hv2 := HX.out; rw [hv2]; clear hv2))
      all_goals (
        go_roundg k
        case measure => omega
        case rel => exact ⟨_, q + 1, rfl, by omega, by omega, by omega, by omega, ⟨by rw [← HN3.out]; congr 1; omega⟩, ⟨Q3.out.at_p (q + 1)⟩⟩)
    · have HN2 : Aside0 (n = n1 ∧ q = p1) := ⟨by
        have h2 := HN.out
        cases gk with
        | zero => rw [numL] at h2; exact ⟨congrArg Prod.fst h2, congrArg Prod.snd h2⟩
        | succ k => rw [numL, if_neg c] at h2; exact ⟨congrArg Prod.fst h2, congrArg Prod.snd h2⟩⟩
      clear HN
      obtain ⟨rfl, rfl⟩ := HN2.out
      have HRR : Aside0 ((if q = p ∨ n < least ∨ 60 < n then Rs.bad p else Rs.ok n q) = r) := ⟨HR.out⟩
      clear HR HN2
      obtain ⟨x, hx⟩ : ∃ x, seeP s q = x := ⟨_, rfl⟩
      have HX := Aside0.mk hx
      rw [hx] at c
      clear hx
      by_cases d1 : 48 ≤ x
      · have d2 : ¬ x ≤ 57 := fun h => c ⟨d1, h⟩
        by_cases j1 : q = p
        · have HB : Aside0 (r = Rs.bad p) := ⟨by rw [← HRR.out, if_pos (.inl j1)]⟩
          have j1' : ((q : Int) == (p : Int)) = true := beq_iff_eq.2 (by omega)
          have j1'' : (q == p) = true := beq_iff_eq.2 j1
          clear c HRR
          go_wp2_with (first
            | (go_at_call 79; (with_reducible refine (see.calls g q s fold _ Q1.out.rs).mono ?_); rintro e w2 ⟨rfl, hb⟩; have Q2 := Aside0.mk (Q1.out.call hb); have k1 := (Q1.out.call hb).c1; clear hb; have hv2 := HX.out; rw [hv2]; clear hv2)
            | (go_at_call 79; (with_reducible refine (see.calls g q s fold _ HQ.out.rs).mono ?_); rintro e w1 ⟨rfl, hb⟩; have Q1 := Aside0.mk (HQ.out.call hb); have k1 := (HQ.out.call hb).c1; clear hb; have hv2 := HX.out; rw [hv2]; clear hv2)
            | (go_at_call 52; (with_reducible refine (fail.calls _ p _).mono ?_); rintro e w9 ⟨he, rfl⟩; unfold Bad at he; subst he))
          exact ⟨rfl, RPost.bad HB.out Q2.out.mv⟩
        have j1' : ((q : Int) == (p : Int)) = false := beq_eq_false_iff_ne.2 (by omega)
        have j1'' : (q == p) = false := beq_eq_false_iff_ne.2 j1
        by_cases j2 : n < least
        · have HB : Aside0 (r = Rs.bad p) := ⟨by rw [← HRR.out, if_pos (.inr (.inl j2))]⟩
          clear c HRR j1
          go_wp2_with (first
            | (go_at_call 79; (with_reducible refine (see.calls g q s fold _ Q1.out.rs).mono ?_); rintro e w2 ⟨rfl, hb⟩; have Q2 := Aside0.mk (Q1.out.call hb); have k1 := (Q1.out.call hb).c1; clear hb; have hv2 := HX.out; rw [hv2]; clear hv2)
            | (go_at_call 79; (with_reducible refine (see.calls g q s fold _ HQ.out.rs).mono ?_); rintro e w1 ⟨rfl, hb⟩; have Q1 := Aside0.mk (HQ.out.call hb); have k1 := (HQ.out.call hb).c1; clear hb; have hv2 := HX.out; rw [hv2]; clear hv2)
            | (go_at_call 52; (with_reducible refine (fail.calls _ p _).mono ?_); rintro e w9 ⟨he, rfl⟩; unfold Bad at he; subst he))
          exact ⟨rfl, RPost.bad HB.out Q2.out.mv⟩
        by_cases j3 : 60 < n
        · have HB : Aside0 (r = Rs.bad p) := ⟨by rw [← HRR.out, if_pos (.inr (.inr j3))]⟩
          clear c HRR j1
          go_wp2_with (first
            | (go_at_call 79; (with_reducible refine (see.calls g q s fold _ Q1.out.rs).mono ?_); rintro e w2 ⟨rfl, hb⟩; have Q2 := Aside0.mk (Q1.out.call hb); have k1 := (Q1.out.call hb).c1; clear hb; have hv2 := HX.out; rw [hv2]; clear hv2)
            | (go_at_call 79; (with_reducible refine (see.calls g q s fold _ HQ.out.rs).mono ?_); rintro e w1 ⟨rfl, hb⟩; have Q1 := Aside0.mk (HQ.out.call hb); have k1 := (HQ.out.call hb).c1; clear hb; have hv2 := HX.out; rw [hv2]; clear hv2)
            | (go_at_call 52; (with_reducible refine (fail.calls _ p _).mono ?_); rintro e w9 ⟨he, rfl⟩; unfold Bad at he; subst he))
          exact ⟨rfl, RPost.bad HB.out Q2.out.mv⟩
        have HB : Aside0 (r = Rs.ok n q) := ⟨by rw [← HRR.out, if_neg (fun h => h.elim j1 (fun h => h.elim j2 j3))]⟩
        clear c HRR j1
        go_wp2_with (first
          | (go_at_call 79; (with_reducible refine (see.calls g q s fold _ Q1.out.rs).mono ?_); rintro e w2 ⟨rfl, hb⟩; have Q2 := Aside0.mk (Q1.out.call hb); have k1 := (Q1.out.call hb).c1; clear hb; have hv2 := HX.out; rw [hv2]; clear hv2)
          | (go_at_call 79; (with_reducible refine (see.calls g q s fold _ HQ.out.rs).mono ?_); rintro e w1 ⟨rfl, hb⟩; have Q1 := Aside0.mk (HQ.out.call hb); have k1 := (HQ.out.call hb).c1; clear hb; have hv2 := HX.out; rw [hv2]; clear hv2))
        go_ret
        exact RPost.good HB.out Q2.out.rs Q2.out.mv
      · by_cases j1 : q = p
        · have HB : Aside0 (r = Rs.bad p) := ⟨by rw [← HRR.out, if_pos (.inl j1)]⟩
          have j1' : ((q : Int) == (p : Int)) = true := beq_iff_eq.2 (by omega)
          have j1'' : (q == p) = true := beq_iff_eq.2 j1
          clear c HRR
          go_wp2_with (first
            | (go_at_call 79; (with_reducible refine (see.calls g q s fold _ HQ.out.rs).mono ?_); rintro e w1 ⟨rfl, hb⟩; have Q1 := Aside0.mk (HQ.out.call hb); have k1 := (HQ.out.call hb).c1; clear hb; have hv2 := HX.out; rw [hv2]; clear hv2)
            | (go_at_call 52; (with_reducible refine (fail.calls _ p _).mono ?_); rintro e w9 ⟨he, rfl⟩; unfold Bad at he; subst he))
          exact ⟨rfl, RPost.bad HB.out Q1.out.mv⟩
        have j1' : ((q : Int) == (p : Int)) = false := beq_eq_false_iff_ne.2 (by omega)
        have j1'' : (q == p) = false := beq_eq_false_iff_ne.2 j1
        by_cases j2 : n < least
        · have HB : Aside0 (r = Rs.bad p) := ⟨by rw [← HRR.out, if_pos (.inr (.inl j2))]⟩
          clear c HRR j1
          go_wp2_with (first
            | (go_at_call 79; (with_reducible refine (see.calls g q s fold _ HQ.out.rs).mono ?_); rintro e w1 ⟨rfl, hb⟩; have Q1 := Aside0.mk (HQ.out.call hb); have k1 := (HQ.out.call hb).c1; clear hb; have hv2 := HX.out; rw [hv2]; clear hv2)
            | (go_at_call 52; (with_reducible refine (fail.calls _ p _).mono ?_); rintro e w9 ⟨he, rfl⟩; unfold Bad at he; subst he))
          exact ⟨rfl, RPost.bad HB.out Q1.out.mv⟩
        by_cases j3 : 60 < n
        · have HB : Aside0 (r = Rs.bad p) := ⟨by rw [← HRR.out, if_pos (.inr (.inr j3))]⟩
          clear c HRR j1
          go_wp2_with (first
            | (go_at_call 79; (with_reducible refine (see.calls g q s fold _ HQ.out.rs).mono ?_); rintro e w1 ⟨rfl, hb⟩; have Q1 := Aside0.mk (HQ.out.call hb); have k1 := (HQ.out.call hb).c1; clear hb; have hv2 := HX.out; rw [hv2]; clear hv2)
            | (go_at_call 52; (with_reducible refine (fail.calls _ p _).mono ?_); rintro e w9 ⟨he, rfl⟩; unfold Bad at he; subst he))
          exact ⟨rfl, RPost.bad HB.out Q1.out.mv⟩
        have HB : Aside0 (r = Rs.ok n q) := ⟨by rw [← HRR.out, if_neg (fun h => h.elim j1 (fun h => h.elim j2 j3))]⟩
        clear c HRR j1
        go_wp2_with (first
          | (go_at_call 79; (with_reducible refine (see.calls g q s fold _ HQ.out.rs).mono ?_); rintro e w1 ⟨rfl, hb⟩; have Q1 := Aside0.mk (HQ.out.call hb); have k1 := (HQ.out.call hb).c1; clear hb; have hv2 := HX.out; rw [hv2]; clear hv2))
        go_ret
        exact RPost.good HB.out Q1.out.rs Q1.out.mv
end Go.Proofs.Ytclgnefeankbgaa.M
