/- An atom. Conditions: as each theorem says. -/
import Derived.Test.YtclgnefeankbgaaM10
import Derived.Great.BuildSlice
namespace Go.Proofs.Ytclgnefeankbgaa.M
open Go Go.RowKit Go.Proofs.YtclgnefeankbgaaW.PrintWords Go.Proofs.YtclgnefeankbgaaW.PrintLast Go.Proofs.YtclgnefeankbgaaW.PrintMore Hand
attribute [local go_sem] Oper.semAt_some max2_int min2_int max_two min_two max_three min_three max_four min_four
set_option linter.unusedVariables false
set_option linter.unusedSimpArgs false
def leafT (k : Int) (c : C4) : Pt := .cons k c 0 0 false .nil .nil
def leafV (k : Int) (c : C4) : PV := ⟨k, c, 0, 0, false, none, 0, 0⟩
def stopI (b : Int) : Int := Lib.indexByte [124, 42, 43, 63, 123, 125, 41, 93] b.toNat.toUInt8
/-- An atom; alt reads what stands within. -/
def atomR (alt : Nat → Rs Pt) (s : ByteArray) (fold : Bool) (p : Nat) : Rs Pt :=
  if seeP s p < 32 ∨ 126 < seeP s p ∨ 0 ≤ stopI (seeP s p) then .bad p
  else if seeP s p = 46 then .ok (leafT 0 (othersN (onlyC 10) 4)) (p + 1)
  else if seeP s p = 94 then .ok (leafT 1 C4.nil) (p + 1)
  else if seeP s p = 36 then .ok (leafT 2 C4.nil) (p + 1)
  else if seeP s p = 40 then
    match alt (p + 1) with
    | .bad n => .bad n
    | .ok t q => if takeP s q 41 = true then .ok t (q + 1) else .bad q
  else if seeP s p = 91 then
    match brR s fold (p + 1) with
    | .bad n => .bad n
    | .ok c q => .ok (leafT 0 c) q
  else if seeP s p = 92 then
    match escR s p with
    | .bad n => .bad n
    | .ok x q => .ok (leafT 0 (casedP fold x.1)) q
  else .ok (leafT 0 (casedP fold (onlyC (seeP s p)))) (p + 1)
section
variable {ops : Array Oper} {rest : List Oper} {o : Oper} {a : Act} {Q : Exit → Act → World → Prop} {w : World}
theorem gate_build {t : TypeId} {parts : Array (Nat × Operand)} (_ho : o.op = .build t parts) (h : wpList Try.prog ops Q (o :: rest) a w) : wpList Try.prog ops Q (o :: rest) a w := h
theorem build_c (hg : o.guard = none) (x : Operand) (hop : o.op = .build 67 #[(1, x)]) (c : C4) (hx : a.eval x = .agg c.cells) (hK : wpList Try.prog ops Q rest (a.put o.dst (.agg (leafV 0 c).cells)) w) : wpList Try.prog ops Q (o :: rest) a w := by
  have hb : Try.prog.built 67 [(1, .agg c.cells)] = some (leafV 0 c).cells := by kernel_rfl
  refine wpList_build hg 67 _ hop ?_ ?_
  · simp [hx, hb]
  · simp only [List.map_toArray, List.map_cons, List.map_nil, hx, hb, Option.getD_some]; exact hK
theorem build_k (hg : o.guard = none) (k : Int) (hop : o.op = .build 67 #[(0, .const (.int .i64 k))]) (hK : wpList Try.prog ops Q rest (a.put o.dst (.agg (leafV k C4.nil).cells)) w) : wpList Try.prog ops Q (o :: rest) a w := by
  have hb : Try.prog.built 67 [(0, .int .i64 k)] = some (leafV k C4.nil).cells := by kernel_rfl
  refine wpList_build hg 67 _ hop ?_ ?_
  · simp [hb, Act.eval]
  · simp only [List.map_toArray, List.map_cons, List.map_nil, Act.eval, hb, Option.getD_some]; exact hK
end
set_option maxHeartbeats 8000000 in
set_option maxRecDepth 100000 in
theorem atom.calls (g p : Nat) (s : ByteArray) (fold : Bool) (alt : Nat → Rs Pt) (W : World) (h : RS W g s p fold) (hs : s.size ≤ 200) (halt : p < s.size → ∀ W', RS W' g s (p + 1) fold → Calls Try.prog 51 #[.pointer (some ⟨g, 0, none⟩)] W' fun e w' => TPost g s fold W' (alt (p + 1)) e w') :
    Calls Try.prog 73 #[.pointer (some ⟨g, 0, none⟩)] W fun e w' => TPost g s fold W (atomR alt s fold p) e w' := by
  have HQ := Aside0.mk (QT.nil h)
  obtain ⟨r, hr⟩ : ∃ r, atomR alt s fold p = r := ⟨_, rfl⟩
  rw [hr]
  unfold atomR at hr
  obtain ⟨q, hq⟩ : ∃ q, p + 1 = q := ⟨_, rfl⟩
  rw [hq] at hr halt
  have HSR := Aside0.mk (seeP_range s p)
  obtain ⟨b, hb⟩ : ∃ b, seeP s p = b := ⟨_, rfl⟩
  rw [hb] at hr HSR
  have HB := Aside0.mk hb
  have HTK : Aside0 (p < s.size → b = b → ∀ W' c, RS W' g s p fold → b = c → Calls Try.prog 66 #[.pointer (some ⟨g, 0, none⟩), .int .u8 c] W' fun e w' => e = .returned (.bool true) ∧ RS w' g s q fold ∧ Mv g W' w') := ⟨fun hlt _ W' c h1 h2 => by
    have h3 : takeP s p c = true := decide_eq_true ⟨hlt, by rw [← h2, ← hb]; exact (if_pos hlt).symm⟩
    have := take.calls g p s fold c W' h1 hs
    rw [h3, if_pos rfl, hq] at this
    exact this⟩
  have HTN : Aside0 (∀ W' c, RS W' g s p fold → b ≠ c → Calls Try.prog 66 #[.pointer (some ⟨g, 0, none⟩), .int .u8 c] W' fun e w' => e = .returned (.bool false) ∧ RS w' g s p fold ∧ Mv g W' w') := ⟨fun W' c h1 h2 => by
    have h3 : takeP s p c = false := decide_eq_false (fun h => h2 (by rw [← hb, ← h.2]; exact if_pos h.1))
    have := take.calls g p s fold c W' h1 hs
    rw [h3, if_neg (by decide)] at this
    exact this⟩
  have HCS : Aside0 (∀ W' q' c, RS W' g s q' fold → Calls Try.prog 86 #[.pointer (some ⟨g, 0, none⟩), .agg c.cells] W' fun e w' => e = .returned (.agg (casedP fold c).cells) ∧ Below W'.heap.size W' w') := ⟨fun W' q' c h => cased.calls g q' s fold c W' h⟩
  obtain ⟨ix, hix⟩ : ∃ i, stopI b = i := ⟨_, rfl⟩
  rw [hix] at hr
  have HIX : Aside0 (∀ W', Calls Try.prog 80 #[.string ⟨#[124, 42, 43, 63, 123, 125, 41, 93]⟩, .int .u8 b] W' fun e w' => e = .returned (.int .i64 ix) ∧ w' = W') := ⟨fun W' => by rw [← hix]; exact Try.strings_IndexByte ⟨#[124, 42, 43, 63, 123, 125, 41, 93]⟩ b W'⟩
  have HBR : Aside0 (q ≤ s.size → ∀ W', RS W' g s q fold → Calls Try.prog 84 #[.pointer (some ⟨g, 0, none⟩)] W' fun e w' => RPost g s fold W' (fun c : C4 => .agg c.cells) (brR s fold q) e w') := ⟨fun h0 W' h1 => brackets.calls g q s fold W' h1 hs h0⟩
  have HES : Aside0 (p < s.size → ∀ W', RS W' g s p fold → Calls Try.prog 85 #[.pointer (some ⟨g, 0, none⟩)] W' fun e w' => RPost g s fold W' fEsc (escR s p) e w') := ⟨fun hp W' h => escape.calls g p s fold W' h hs hp⟩
  have HAL := Aside0.mk halt
  have HWG : Aside0 (∀ W' q, RS W' g s q fold → takeP s q 41 = true → Calls Try.prog 83 #[.pointer (some ⟨g, 0, none⟩), .int .u8 41] W' fun e w' => e = .returned (.tuple #[]) ∧ RS w' g s (q + 1) fold ∧ Mv g W' w') := ⟨fun W' q h1 h2 => want.good g q s fold 41 W' h1 hs h2⟩
  have HWB : Aside0 (∀ W' q, RS W' g s q fold → takeP s q 41 = false → Calls Try.prog 83 #[.pointer (some ⟨g, 0, none⟩), .int .u8 41] W' fun e w' => Bad q e ∧ Mv g W' w') := ⟨fun W' q h1 h2 => want.bad g q s fold 41 W' h1 hs h2⟩
  clear h halt hb hix
  by_cases m1 : b < 32
  · rw [if_pos (.inl m1)] at hr
    have d1 : decide (b < 32) = true := decide_eq_true m1
    clear hq m1
    have HR := Aside0.mk hr
    clear hr
    go_enter Try.func73, Try.ntmps73
    go_wp2_with (first
      | (go_at_call 52; (with_reducible refine (fail.calls _ p _).mono ?_); rintro e w9 ⟨he, rfl⟩; unfold Bad at he; subst he)
      | (go_at_call 79; (with_reducible refine (see.calls g p s fold _ Y1.out.rs).mono ?_); rintro e w9 ⟨rfl, hb⟩; have Y2 := Aside0.mk (Y1.out.call hb); have yk2 := Y2.out.c1; have yf2 := Y2.out.f1; have yz2 := Y2.out.c0; clear hb; have hv2 := HB.out; rw [hv2]; clear hv2)
      | ((with_reducible refine gate_alloc (t := 67) (d := 2) rfl rfl ?_); refine alloc_pt rfl rfl rfl ?_; intro r2 w9 hg1 hc1 hb1; have Y1 := Aside0.mk (HQ.out.push hg1 hc1 hb1); clear hg1 hc1 hb1))
    exact ⟨rfl, TPost.bad HR.out.symm Y2.out.mv⟩
  have d1 : decide (b < 32) = false := decide_eq_false m1
  by_cases m2 : 126 < b
  · rw [if_pos (.inr (.inl m2))] at hr
    have d2 : decide (126 < b) = true := decide_eq_true m2
    clear hq m1 m2
    have HR := Aside0.mk hr
    clear hr
    go_enter Try.func73, Try.ntmps73
    go_wp2_with (first
      | (go_at_call 52; (with_reducible refine (fail.calls _ p _).mono ?_); rintro e w9 ⟨he, rfl⟩; unfold Bad at he; subst he)
      | (go_at_call 79; (with_reducible refine (see.calls g p s fold _ Y3.out.rs).mono ?_); rintro e w9 ⟨rfl, hb⟩; have Y4 := Aside0.mk (Y3.out.call hb); have yk4 := Y4.out.c1; have yf4 := Y4.out.f1; have yz4 := Y4.out.c0; clear hb; have hv2 := HB.out; rw [hv2]; clear hv2)
      | ((with_reducible refine gate_alloc (t := 67) (d := 2) rfl rfl ?_); refine alloc_pt rfl rfl rfl ?_; intro r2 w9 hg1 hc1 hb1; have Y3 := Aside0.mk (HQ.out.push hg1 hc1 hb1); clear hg1 hc1 hb1))
    exact ⟨rfl, TPost.bad HR.out.symm Y4.out.mv⟩
  have d2 : decide (126 < b) = false := decide_eq_false m2
  by_cases m3 : 0 ≤ ix
  · rw [if_pos (.inr (.inr m3))] at hr
    have d3 : decide (0 ≤ ix) = true := decide_eq_true m3
    clear hq m1 m2
    have HR := Aside0.mk hr
    clear hr
    go_enter Try.func73, Try.ntmps73
    go_wp2_with (first
      | (go_at_call 52; (with_reducible refine (fail.calls _ p _).mono ?_); rintro e w9 ⟨he, rfl⟩; unfold Bad at he; subst he)
      | (go_at_call 80; (with_reducible refine (HIX.out _).mono ?_); rintro e w9 ⟨rfl, rfl⟩)
      | (go_at_call 79; (with_reducible refine (see.calls g p s fold _ Y5.out.rs).mono ?_); rintro e w9 ⟨rfl, hb⟩; have Y6 := Aside0.mk (Y5.out.call hb); have yk6 := Y6.out.c1; have yf6 := Y6.out.f1; have yz6 := Y6.out.c0; clear hb; have hv2 := HB.out; rw [hv2]; clear hv2)
      | ((with_reducible refine gate_alloc (t := 67) (d := 2) rfl rfl ?_); refine alloc_pt rfl rfl rfl ?_; intro r2 w9 hg1 hc1 hb1; have Y5 := Aside0.mk (HQ.out.push hg1 hc1 hb1); clear hg1 hc1 hb1))
    exact ⟨rfl, TPost.bad HR.out.symm Y6.out.mv⟩
  have d3 : decide (0 ≤ ix) = false := decide_eq_false m3
  rw [if_neg (fun h => by rcases h with h | h | h <;> omega)] at hr
  have hlt : p < s.size := seeP_lt (by rw [HB.out]; omega)
  have w1 : IntKind.i64.wrap ((p : Int) + 1) = (q : Int) := by rw [IntKind.wrap_i64]; omega
  have HT2 := Aside0.mk (HTK.out hlt rfl)
  clear m1 m2 m3
  by_cases c46 : b = 46
  · rw [if_pos c46] at hr
    have HE := Aside0.mk c46
    clear c46
    obtain ⟨o1, ho1⟩ : ∃ o, onlyC 10 = o := ⟨_, rfl⟩
    rw [ho1] at hr
    obtain ⟨o2, ho2⟩ : ∃ o, othersN o1 4 = o := ⟨_, rfl⟩
    rw [ho2] at hr
    have HON : Aside0 (∀ W', Calls Try.prog 81 #[.int .u8 10] W' fun e w' => e = .returned (.agg o1.cells) ∧ Below W'.heap.size W' w') := ⟨fun W' => by rw [← ho1]; exact only.calls 10 W' (by omega) (by omega)⟩
    have HOT : Aside0 (∀ W', Calls Try.prog 82 #[.agg o1.cells] W' fun e w' => e = .returned (.agg o2.cells) ∧ Below W'.heap.size W' w') := ⟨fun W' => by rw [← ho2]; exact others.calls o1 W'⟩
    clear ho1 ho2 hq hlt
    have HR := Aside0.mk hr
    clear hr
    go_enter Try.func73, Try.ntmps73
    go_wp2_with (first
      | ((with_reducible refine gate_storeT (t := 67) (p := 2) rfl ?_); refine store_pt rfl 2 _ rfl _ rfl PV.nil (leafV 0 o2) rfl (Y11.out.at_ 0 _ _ _ rfl).2 ?_; intro w9 hc hm; have Y12 := Aside0.mk (Y11.out.set 0 rfl hc hm); clear hc hm)
      | ((with_reducible refine gate_build (t := 67) rfl ?_); refine build_c rfl _ rfl o2 rfl ?_)
      | (go_at_call 82; (with_reducible refine (HOT.out _).mono ?_); rintro e w9 ⟨rfl, hb⟩; have Y11 := Aside0.mk (Y10.out.call hb); clear hb)
      | (go_at_call 81; (with_reducible refine (HON.out _).mono ?_); rintro e w9 ⟨rfl, hb⟩; have Y10 := Aside0.mk (Y9.out.call hb); clear hb)
      | (go_at_call 66; (with_reducible refine (HT2.out _ 46 Y8.out.rs HE.out).mono ?_); rintro e w9 ⟨rfl, hr1, hm1⟩; have Y9 := Aside0.mk (Y8.out.rd hr1 hm1); have yk9 := Y9.out.c1; have yf9 := Y9.out.f1; have yz9 := Y9.out.c0; clear hr1 hm1)
      | (go_at_call 80; (with_reducible refine (HIX.out _).mono ?_); rintro e w9 ⟨rfl, rfl⟩)
      | (go_at_call 79; (with_reducible refine (see.calls g p s fold _ Y7.out.rs).mono ?_); rintro e w9 ⟨rfl, hb⟩; have Y8 := Aside0.mk (Y7.out.call hb); have yk8 := Y8.out.c1; have yf8 := Y8.out.f1; have yz8 := Y8.out.c0; clear hb; have hv2 := HB.out; rw [hv2]; clear hv2)
      | ((with_reducible refine gate_alloc (t := 67) (d := 2) rfl rfl ?_); refine alloc_pt rfl rfl rfl ?_; intro r2 w9 hg1 hc1 hb1; have Y7 := Aside0.mk (HQ.out.push hg1 hc1 hb1); clear hg1 hc1 hb1))
    (try simp only [Exit.inBlock, Exit.then])
    refine bodyPost_ret (results_pt rfl _ _ rfl (v := (leafV 0 o2)) (Y12.out.at_ 0 _ _ _ rfl).2) rfl ?_
    exact TPost.good HR.out.symm (FV.leaf _ _ _ _ _ _ _) Y12.out.rs Y12.out.mv
  rw [if_neg c46] at hr
  have N46 := Aside0.mk c46
  have x46 : (b == 46) = false := beq_eq_false_iff_ne.2 c46
  clear c46
  by_cases c94 : b = 94
  · rw [if_pos c94] at hr
    have HE := Aside0.mk c94
    clear c94
    clear hq hlt
    have HR := Aside0.mk hr
    clear hr
    go_enter Try.func73, Try.ntmps73
    go_wp2_with (first
      | ((with_reducible refine gate_storeT (t := 67) (p := 2) rfl ?_); refine store_pt rfl 2 _ rfl _ rfl PV.nil (leafV 1 C4.nil) rfl (Y16.out.at_ 0 _ _ _ rfl).2 ?_; intro w9 hc hm; have Y17 := Aside0.mk (Y16.out.set 0 rfl hc hm); clear hc hm)
      | ((with_reducible refine gate_build (t := 67) rfl ?_); refine build_k rfl 1 rfl ?_)
      | (go_at_call 66; (with_reducible refine (HT2.out _ 94 Y15.out.rs HE.out).mono ?_); rintro e w9 ⟨rfl, hr1, hm1⟩; have Y16 := Aside0.mk (Y15.out.rd hr1 hm1); have yk16 := Y16.out.c1; have yf16 := Y16.out.f1; have yz16 := Y16.out.c0; clear hr1 hm1)
      | (go_at_call 66; (with_reducible refine (HTN.out _ 46 Y14.out.rs N46.out).mono ?_); rintro e w9 ⟨rfl, hr1, hm1⟩; have Y15 := Aside0.mk (Y14.out.rd hr1 hm1); have yk15 := Y15.out.c1; have yf15 := Y15.out.f1; have yz15 := Y15.out.c0; clear hr1 hm1)
      | (go_at_call 80; (with_reducible refine (HIX.out _).mono ?_); rintro e w9 ⟨rfl, rfl⟩)
      | (go_at_call 79; (with_reducible refine (see.calls g p s fold _ Y13.out.rs).mono ?_); rintro e w9 ⟨rfl, hb⟩; have Y14 := Aside0.mk (Y13.out.call hb); have yk14 := Y14.out.c1; have yf14 := Y14.out.f1; have yz14 := Y14.out.c0; clear hb; have hv2 := HB.out; rw [hv2]; clear hv2)
      | ((with_reducible refine gate_alloc (t := 67) (d := 2) rfl rfl ?_); refine alloc_pt rfl rfl rfl ?_; intro r2 w9 hg1 hc1 hb1; have Y13 := Aside0.mk (HQ.out.push hg1 hc1 hb1); clear hg1 hc1 hb1))
    (try simp only [Exit.inBlock, Exit.then])
    refine bodyPost_ret (results_pt rfl _ _ rfl (v := (leafV 1 C4.nil)) (Y17.out.at_ 0 _ _ _ rfl).2) rfl ?_
    exact TPost.good HR.out.symm (FV.leaf _ _ _ _ _ _ _) Y17.out.rs Y17.out.mv
  rw [if_neg c94] at hr
  have N94 := Aside0.mk c94
  have x94 : (b == 94) = false := beq_eq_false_iff_ne.2 c94
  clear c94
  by_cases c36 : b = 36
  · rw [if_pos c36] at hr
    have HE := Aside0.mk c36
    clear c36
    clear hq hlt
    have HR := Aside0.mk hr
    clear hr
    go_enter Try.func73, Try.ntmps73
    go_wp2_with (first
      | ((with_reducible refine gate_storeT (t := 67) (p := 2) rfl ?_); refine store_pt rfl 2 _ rfl _ rfl PV.nil (leafV 2 C4.nil) rfl (Y22.out.at_ 0 _ _ _ rfl).2 ?_; intro w9 hc hm; have Y23 := Aside0.mk (Y22.out.set 0 rfl hc hm); clear hc hm)
      | ((with_reducible refine gate_build (t := 67) rfl ?_); refine build_k rfl 2 rfl ?_)
      | (go_at_call 66; (with_reducible refine (HT2.out _ 36 Y21.out.rs HE.out).mono ?_); rintro e w9 ⟨rfl, hr1, hm1⟩; have Y22 := Aside0.mk (Y21.out.rd hr1 hm1); have yk22 := Y22.out.c1; have yf22 := Y22.out.f1; have yz22 := Y22.out.c0; clear hr1 hm1)
      | (go_at_call 66; (with_reducible refine (HTN.out _ 94 Y20.out.rs N94.out).mono ?_); rintro e w9 ⟨rfl, hr1, hm1⟩; have Y21 := Aside0.mk (Y20.out.rd hr1 hm1); have yk21 := Y21.out.c1; have yf21 := Y21.out.f1; have yz21 := Y21.out.c0; clear hr1 hm1)
      | (go_at_call 66; (with_reducible refine (HTN.out _ 46 Y19.out.rs N46.out).mono ?_); rintro e w9 ⟨rfl, hr1, hm1⟩; have Y20 := Aside0.mk (Y19.out.rd hr1 hm1); have yk20 := Y20.out.c1; have yf20 := Y20.out.f1; have yz20 := Y20.out.c0; clear hr1 hm1)
      | (go_at_call 80; (with_reducible refine (HIX.out _).mono ?_); rintro e w9 ⟨rfl, rfl⟩)
      | (go_at_call 79; (with_reducible refine (see.calls g p s fold _ Y18.out.rs).mono ?_); rintro e w9 ⟨rfl, hb⟩; have Y19 := Aside0.mk (Y18.out.call hb); have yk19 := Y19.out.c1; have yf19 := Y19.out.f1; have yz19 := Y19.out.c0; clear hb; have hv2 := HB.out; rw [hv2]; clear hv2)
      | ((with_reducible refine gate_alloc (t := 67) (d := 2) rfl rfl ?_); refine alloc_pt rfl rfl rfl ?_; intro r2 w9 hg1 hc1 hb1; have Y18 := Aside0.mk (HQ.out.push hg1 hc1 hb1); clear hg1 hc1 hb1))
    (try simp only [Exit.inBlock, Exit.then])
    refine bodyPost_ret (results_pt rfl _ _ rfl (v := (leafV 2 C4.nil)) (Y23.out.at_ 0 _ _ _ rfl).2) rfl ?_
    exact TPost.good HR.out.symm (FV.leaf _ _ _ _ _ _ _) Y23.out.rs Y23.out.mv
  rw [if_neg c36] at hr
  have N36 := Aside0.mk c36
  have x36 : (b == 36) = false := beq_eq_false_iff_ne.2 c36
  clear c36
  by_cases c40 : b = 40
  · rw [if_pos c40] at hr
    have HE := Aside0.mk c40
    clear c40
    cases hE : alt q with
    | bad n =>
      rw [hE] at hr
      simp only at hr
      have HA : Aside0 (∀ W', RS W' g s q fold → Calls Try.prog 51 #[.pointer (some ⟨g, 0, none⟩)] W' fun e w' => Bad n e ∧ Mv g W' w') := ⟨fun W' h => (HAL.out hlt W' h).mono fun e w' h => h.bad_elim hE⟩
      clear hq hlt hE
      have HR := Aside0.mk hr
      clear hr
      go_enter Try.func73, Try.ntmps73
      go_wp2_with (first
        | (go_at_call 51; (with_reducible refine (HA.out _ Y29.out.rs).mono ?_); rintro e w9 ⟨he, hm1⟩; unfold Bad at he; subst he; have Y30 := Aside0.mk (Y29.out.mv.trans hm1); clear hm1)
        | (go_at_call 66; (with_reducible refine (HT2.out _ 40 Y28.out.rs HE.out).mono ?_); rintro e w9 ⟨rfl, hr1, hm1⟩; have Y29 := Aside0.mk (Y28.out.rd hr1 hm1); have yk29 := Y29.out.c1; have yf29 := Y29.out.f1; have yz29 := Y29.out.c0; clear hr1 hm1)
        | (go_at_call 66; (with_reducible refine (HTN.out _ 36 Y27.out.rs N36.out).mono ?_); rintro e w9 ⟨rfl, hr1, hm1⟩; have Y28 := Aside0.mk (Y27.out.rd hr1 hm1); have yk28 := Y28.out.c1; have yf28 := Y28.out.f1; have yz28 := Y28.out.c0; clear hr1 hm1)
        | (go_at_call 66; (with_reducible refine (HTN.out _ 94 Y26.out.rs N94.out).mono ?_); rintro e w9 ⟨rfl, hr1, hm1⟩; have Y27 := Aside0.mk (Y26.out.rd hr1 hm1); have yk27 := Y27.out.c1; have yf27 := Y27.out.f1; have yz27 := Y27.out.c0; clear hr1 hm1)
        | (go_at_call 66; (with_reducible refine (HTN.out _ 46 Y25.out.rs N46.out).mono ?_); rintro e w9 ⟨rfl, hr1, hm1⟩; have Y26 := Aside0.mk (Y25.out.rd hr1 hm1); have yk26 := Y26.out.c1; have yf26 := Y26.out.f1; have yz26 := Y26.out.c0; clear hr1 hm1)
        | (go_at_call 80; (with_reducible refine (HIX.out _).mono ?_); rintro e w9 ⟨rfl, rfl⟩)
        | (go_at_call 79; (with_reducible refine (see.calls g p s fold _ Y24.out.rs).mono ?_); rintro e w9 ⟨rfl, hb⟩; have Y25 := Aside0.mk (Y24.out.call hb); have yk25 := Y25.out.c1; have yf25 := Y25.out.f1; have yz25 := Y25.out.c0; clear hb; have hv2 := HB.out; rw [hv2]; clear hv2)
        | ((with_reducible refine gate_alloc (t := 67) (d := 2) rfl rfl ?_); refine alloc_pt rfl rfl rfl ?_; intro r2 w9 hg1 hc1 hb1; have Y24 := Aside0.mk (HQ.out.push hg1 hc1 hb1); clear hg1 hc1 hb1))
      exact ⟨rfl, TPost.bad HR.out.symm Y30.out⟩
    | ok t q2 =>
      rw [hE] at hr
      simp only at hr
      have HA : Aside0 (∀ W', RS W' g s q fold → Calls Try.prog 51 #[.pointer (some ⟨g, 0, none⟩)] W' fun e w' => ∃ v : PV, e = .returned (.agg v.cells) ∧ FV w' (fun b => W'.heap.size ≤ b) t [v] ∧ RS w' g s q2 fold ∧ Mv g W' w') := ⟨fun W' h => (HAL.out hlt W' h).mono fun e w' h => h.ok_elim hE⟩
      clear hE
      by_cases t1 : takeP s q2 41 = true
      · rw [if_pos t1] at hr
        have HW := Aside0.mk t1
        clear t1 hq hlt
        have HR := Aside0.mk hr
        clear hr
        go_enter Try.func73, Try.ntmps73
        go_wp2_with (first
          | ((with_reducible refine gate_storeT (t := 67) (p := 2) rfl ?_); refine store_pt rfl 2 _ rfl _ rfl PV.nil v rfl (Y40.out.at_ 0 _ _ _ rfl).2 ?_; intro w9 hc hm; have Y41 := Aside0.mk (Y40.out.set 0 rfl hc hm); clear hc hm)
          | ((with_reducible refine gate_load (t := 67) (p := 4) rfl ?_); refine load_pt rfl 4 rfl _ rfl v (Y40.out.at_ 1 _ _ _ rfl).2 ?_)
          | (go_at_call 83; (with_reducible refine (HWG.out _ q2 Y39.out.rs HW.out).mono ?_); rintro e w9 ⟨rfl, hr1, hm1⟩; have Y40 := Aside0.mk (Y39.out.rd hr1 hm1); clear hr1 hm1)
          | ((with_reducible refine gate_storeT (t := 67) (p := 4) rfl ?_); refine store_pt rfl 4 _ rfl _ rfl PV.nil v rfl (Y38.out.at_ 1 _ _ _ rfl).2 ?_; intro w9 hc hm; have Y39 := Aside0.mk (Y38.out.set 1 rfl hc hm); clear hc hm)
          | ((with_reducible refine gate_alloc (t := 67) (d := 4) rfl rfl ?_); refine alloc_pt rfl rfl rfl ?_; intro r4 w9 hg1 hc1 hb1; have Y38 := Aside0.mk (Y37.out.push hg1 hc1 hb1); clear hg1 hc1 hb1)
          | (go_at_call 51; (with_reducible refine (HA.out _ Y36.out.rs).mono ?_); rintro e w9 ⟨v, rfl, ht1, hr1, hm1⟩; have Y37 := Aside0.mk (Y36.out.tree hr1 hm1 ht1); clear ht1 hr1 hm1)
          | (go_at_call 66; (with_reducible refine (HT2.out _ 40 Y35.out.rs HE.out).mono ?_); rintro e w9 ⟨rfl, hr1, hm1⟩; have Y36 := Aside0.mk (Y35.out.rd hr1 hm1); have yk36 := Y36.out.c1; have yf36 := Y36.out.f1; have yz36 := Y36.out.c0; clear hr1 hm1)
          | (go_at_call 66; (with_reducible refine (HTN.out _ 36 Y34.out.rs N36.out).mono ?_); rintro e w9 ⟨rfl, hr1, hm1⟩; have Y35 := Aside0.mk (Y34.out.rd hr1 hm1); have yk35 := Y35.out.c1; have yf35 := Y35.out.f1; have yz35 := Y35.out.c0; clear hr1 hm1)
          | (go_at_call 66; (with_reducible refine (HTN.out _ 94 Y33.out.rs N94.out).mono ?_); rintro e w9 ⟨rfl, hr1, hm1⟩; have Y34 := Aside0.mk (Y33.out.rd hr1 hm1); have yk34 := Y34.out.c1; have yf34 := Y34.out.f1; have yz34 := Y34.out.c0; clear hr1 hm1)
          | (go_at_call 66; (with_reducible refine (HTN.out _ 46 Y32.out.rs N46.out).mono ?_); rintro e w9 ⟨rfl, hr1, hm1⟩; have Y33 := Aside0.mk (Y32.out.rd hr1 hm1); have yk33 := Y33.out.c1; have yf33 := Y33.out.f1; have yz33 := Y33.out.c0; clear hr1 hm1)
          | (go_at_call 80; (with_reducible refine (HIX.out _).mono ?_); rintro e w9 ⟨rfl, rfl⟩)
          | (go_at_call 79; (with_reducible refine (see.calls g p s fold _ Y31.out.rs).mono ?_); rintro e w9 ⟨rfl, hb⟩; have Y32 := Aside0.mk (Y31.out.call hb); have yk32 := Y32.out.c1; have yf32 := Y32.out.f1; have yz32 := Y32.out.c0; clear hb; have hv2 := HB.out; rw [hv2]; clear hv2)
          | ((with_reducible refine gate_alloc (t := 67) (d := 2) rfl rfl ?_); refine alloc_pt rfl rfl rfl ?_; intro r2 w9 hg1 hc1 hb1; have Y31 := Aside0.mk (HQ.out.push hg1 hc1 hb1); clear hg1 hc1 hb1))
        (try simp only [Exit.inBlock, Exit.then])
        refine bodyPost_ret (results_pt rfl _ _ rfl (v := v) (Y41.out.at_ 0 _ _ _ rfl).2) rfl ?_
        exact Y41.out.post 0 rfl HR.out.symm
      rw [if_neg t1] at hr
      have HW := Aside0.mk (Bool.eq_false_iff.2 t1)
      clear t1 hq hlt
      have HR := Aside0.mk hr
      clear hr
      go_enter Try.func73, Try.ntmps73
      go_wp2_with (first
        | (go_at_call 83; (with_reducible refine (HWB.out _ q2 Y50.out.rs HW.out).mono ?_); rintro e w9 ⟨he, hm1⟩; unfold Bad at he; subst he; have Y51 := Aside0.mk (Y50.out.mv.trans hm1); clear hm1)
        | ((with_reducible refine gate_storeT (t := 67) (p := 4) rfl ?_); refine store_pt rfl 4 _ rfl _ rfl PV.nil v rfl (Y49.out.at_ 1 _ _ _ rfl).2 ?_; intro w9 hc hm; have Y50 := Aside0.mk (Y49.out.set 1 rfl hc hm); clear hc hm)
        | ((with_reducible refine gate_alloc (t := 67) (d := 4) rfl rfl ?_); refine alloc_pt rfl rfl rfl ?_; intro r4 w9 hg1 hc1 hb1; have Y49 := Aside0.mk (Y48.out.push hg1 hc1 hb1); clear hg1 hc1 hb1)
        | (go_at_call 51; (with_reducible refine (HA.out _ Y47.out.rs).mono ?_); rintro e w9 ⟨v, rfl, ht1, hr1, hm1⟩; have Y48 := Aside0.mk (Y47.out.tree hr1 hm1 ht1); clear ht1 hr1 hm1)
        | (go_at_call 66; (with_reducible refine (HT2.out _ 40 Y46.out.rs HE.out).mono ?_); rintro e w9 ⟨rfl, hr1, hm1⟩; have Y47 := Aside0.mk (Y46.out.rd hr1 hm1); have yk47 := Y47.out.c1; have yf47 := Y47.out.f1; have yz47 := Y47.out.c0; clear hr1 hm1)
        | (go_at_call 66; (with_reducible refine (HTN.out _ 36 Y45.out.rs N36.out).mono ?_); rintro e w9 ⟨rfl, hr1, hm1⟩; have Y46 := Aside0.mk (Y45.out.rd hr1 hm1); have yk46 := Y46.out.c1; have yf46 := Y46.out.f1; have yz46 := Y46.out.c0; clear hr1 hm1)
        | (go_at_call 66; (with_reducible refine (HTN.out _ 94 Y44.out.rs N94.out).mono ?_); rintro e w9 ⟨rfl, hr1, hm1⟩; have Y45 := Aside0.mk (Y44.out.rd hr1 hm1); have yk45 := Y45.out.c1; have yf45 := Y45.out.f1; have yz45 := Y45.out.c0; clear hr1 hm1)
        | (go_at_call 66; (with_reducible refine (HTN.out _ 46 Y43.out.rs N46.out).mono ?_); rintro e w9 ⟨rfl, hr1, hm1⟩; have Y44 := Aside0.mk (Y43.out.rd hr1 hm1); have yk44 := Y44.out.c1; have yf44 := Y44.out.f1; have yz44 := Y44.out.c0; clear hr1 hm1)
        | (go_at_call 80; (with_reducible refine (HIX.out _).mono ?_); rintro e w9 ⟨rfl, rfl⟩)
        | (go_at_call 79; (with_reducible refine (see.calls g p s fold _ Y42.out.rs).mono ?_); rintro e w9 ⟨rfl, hb⟩; have Y43 := Aside0.mk (Y42.out.call hb); have yk43 := Y43.out.c1; have yf43 := Y43.out.f1; have yz43 := Y43.out.c0; clear hb; have hv2 := HB.out; rw [hv2]; clear hv2)
        | ((with_reducible refine gate_alloc (t := 67) (d := 2) rfl rfl ?_); refine alloc_pt rfl rfl rfl ?_; intro r2 w9 hg1 hc1 hb1; have Y42 := Aside0.mk (HQ.out.push hg1 hc1 hb1); clear hg1 hc1 hb1))
      exact ⟨rfl, TPost.bad HR.out.symm Y51.out⟩
  rw [if_neg c40] at hr
  have N40 := Aside0.mk c40
  have x40 : (b == 40) = false := beq_eq_false_iff_ne.2 c40
  clear c40
  by_cases c91 : b = 91
  · rw [if_pos c91] at hr
    have HE := Aside0.mk c91
    clear c91
    cases hE : brR s fold q with
    | bad n =>
      rw [hE] at hr
      simp only at hr
      have hq1 : q ≤ s.size := by omega
      have HA : Aside0 (∀ W', RS W' g s q fold → Calls Try.prog 84 #[.pointer (some ⟨g, 0, none⟩)] W' fun e w' => Bad n e ∧ Mv g W' w') := ⟨fun W' h => (HBR.out hq1 W' h).mono fun e w' h => h.bad_elim hE⟩
      clear hq hlt hq1 hE
      have HR := Aside0.mk hr
      clear hr
      go_enter Try.func73, Try.ntmps73
      go_wp2_with (first
        | (go_at_call 84; (with_reducible refine (HA.out _ Y58.out.rs).mono ?_); rintro e w9 ⟨he, hm1⟩; unfold Bad at he; subst he; have Y59 := Aside0.mk (Y58.out.mv.trans hm1); clear hm1)
        | (go_at_call 66; (with_reducible refine (HT2.out _ 91 Y57.out.rs HE.out).mono ?_); rintro e w9 ⟨rfl, hr1, hm1⟩; have Y58 := Aside0.mk (Y57.out.rd hr1 hm1); have yk58 := Y58.out.c1; have yf58 := Y58.out.f1; have yz58 := Y58.out.c0; clear hr1 hm1)
        | (go_at_call 66; (with_reducible refine (HTN.out _ 40 Y56.out.rs N40.out).mono ?_); rintro e w9 ⟨rfl, hr1, hm1⟩; have Y57 := Aside0.mk (Y56.out.rd hr1 hm1); have yk57 := Y57.out.c1; have yf57 := Y57.out.f1; have yz57 := Y57.out.c0; clear hr1 hm1)
        | (go_at_call 66; (with_reducible refine (HTN.out _ 36 Y55.out.rs N36.out).mono ?_); rintro e w9 ⟨rfl, hr1, hm1⟩; have Y56 := Aside0.mk (Y55.out.rd hr1 hm1); have yk56 := Y56.out.c1; have yf56 := Y56.out.f1; have yz56 := Y56.out.c0; clear hr1 hm1)
        | (go_at_call 66; (with_reducible refine (HTN.out _ 94 Y54.out.rs N94.out).mono ?_); rintro e w9 ⟨rfl, hr1, hm1⟩; have Y55 := Aside0.mk (Y54.out.rd hr1 hm1); have yk55 := Y55.out.c1; have yf55 := Y55.out.f1; have yz55 := Y55.out.c0; clear hr1 hm1)
        | (go_at_call 66; (with_reducible refine (HTN.out _ 46 Y53.out.rs N46.out).mono ?_); rintro e w9 ⟨rfl, hr1, hm1⟩; have Y54 := Aside0.mk (Y53.out.rd hr1 hm1); have yk54 := Y54.out.c1; have yf54 := Y54.out.f1; have yz54 := Y54.out.c0; clear hr1 hm1)
        | (go_at_call 80; (with_reducible refine (HIX.out _).mono ?_); rintro e w9 ⟨rfl, rfl⟩)
        | (go_at_call 79; (with_reducible refine (see.calls g p s fold _ Y52.out.rs).mono ?_); rintro e w9 ⟨rfl, hb⟩; have Y53 := Aside0.mk (Y52.out.call hb); have yk53 := Y53.out.c1; have yf53 := Y53.out.f1; have yz53 := Y53.out.c0; clear hb; have hv2 := HB.out; rw [hv2]; clear hv2)
        | ((with_reducible refine gate_alloc (t := 67) (d := 2) rfl rfl ?_); refine alloc_pt rfl rfl rfl ?_; intro r2 w9 hg1 hc1 hb1; have Y52 := Aside0.mk (HQ.out.push hg1 hc1 hb1); clear hg1 hc1 hb1))
      exact ⟨rfl, TPost.bad HR.out.symm Y59.out⟩
    | ok c q2 =>
      rw [hE] at hr
      simp only at hr
      have hq1 : q ≤ s.size := by omega
      have HA : Aside0 (∀ W', RS W' g s q fold → Calls Try.prog 84 #[.pointer (some ⟨g, 0, none⟩)] W' fun e w' => e = .returned (.agg c.cells) ∧ RS w' g s q2 fold ∧ Mv g W' w') := ⟨fun W' h => (HBR.out hq1 W' h).mono fun e w' h => h.ok_elim hE⟩
      clear hq hlt hq1 hE
      have HR := Aside0.mk hr
      clear hr
      go_enter Try.func73, Try.ntmps73
      go_wp2_with (first
        | ((with_reducible refine gate_storeT (t := 67) (p := 2) rfl ?_); refine store_pt rfl 2 _ rfl _ rfl PV.nil (leafV 0 c) rfl (Y67.out.at_ 0 _ _ _ rfl).2 ?_; intro w9 hc hm; have Y68 := Aside0.mk (Y67.out.set 0 rfl hc hm); clear hc hm)
        | ((with_reducible refine gate_build (t := 67) rfl ?_); refine build_c rfl _ rfl c rfl ?_)
        | (go_at_call 84; (with_reducible refine (HA.out _ Y66.out.rs).mono ?_); rintro e w9 ⟨rfl, hr1, hm1⟩; have Y67 := Aside0.mk (Y66.out.rd hr1 hm1); clear hr1 hm1)
        | (go_at_call 66; (with_reducible refine (HT2.out _ 91 Y65.out.rs HE.out).mono ?_); rintro e w9 ⟨rfl, hr1, hm1⟩; have Y66 := Aside0.mk (Y65.out.rd hr1 hm1); have yk66 := Y66.out.c1; have yf66 := Y66.out.f1; have yz66 := Y66.out.c0; clear hr1 hm1)
        | (go_at_call 66; (with_reducible refine (HTN.out _ 40 Y64.out.rs N40.out).mono ?_); rintro e w9 ⟨rfl, hr1, hm1⟩; have Y65 := Aside0.mk (Y64.out.rd hr1 hm1); have yk65 := Y65.out.c1; have yf65 := Y65.out.f1; have yz65 := Y65.out.c0; clear hr1 hm1)
        | (go_at_call 66; (with_reducible refine (HTN.out _ 36 Y63.out.rs N36.out).mono ?_); rintro e w9 ⟨rfl, hr1, hm1⟩; have Y64 := Aside0.mk (Y63.out.rd hr1 hm1); have yk64 := Y64.out.c1; have yf64 := Y64.out.f1; have yz64 := Y64.out.c0; clear hr1 hm1)
        | (go_at_call 66; (with_reducible refine (HTN.out _ 94 Y62.out.rs N94.out).mono ?_); rintro e w9 ⟨rfl, hr1, hm1⟩; have Y63 := Aside0.mk (Y62.out.rd hr1 hm1); have yk63 := Y63.out.c1; have yf63 := Y63.out.f1; have yz63 := Y63.out.c0; clear hr1 hm1)
        | (go_at_call 66; (with_reducible refine (HTN.out _ 46 Y61.out.rs N46.out).mono ?_); rintro e w9 ⟨rfl, hr1, hm1⟩; have Y62 := Aside0.mk (Y61.out.rd hr1 hm1); have yk62 := Y62.out.c1; have yf62 := Y62.out.f1; have yz62 := Y62.out.c0; clear hr1 hm1)
        | (go_at_call 80; (with_reducible refine (HIX.out _).mono ?_); rintro e w9 ⟨rfl, rfl⟩)
        | (go_at_call 79; (with_reducible refine (see.calls g p s fold _ Y60.out.rs).mono ?_); rintro e w9 ⟨rfl, hb⟩; have Y61 := Aside0.mk (Y60.out.call hb); have yk61 := Y61.out.c1; have yf61 := Y61.out.f1; have yz61 := Y61.out.c0; clear hb; have hv2 := HB.out; rw [hv2]; clear hv2)
        | ((with_reducible refine gate_alloc (t := 67) (d := 2) rfl rfl ?_); refine alloc_pt rfl rfl rfl ?_; intro r2 w9 hg1 hc1 hb1; have Y60 := Aside0.mk (HQ.out.push hg1 hc1 hb1); clear hg1 hc1 hb1))
      (try simp only [Exit.inBlock, Exit.then])
      refine bodyPost_ret (results_pt rfl _ _ rfl (v := (leafV 0 c)) (Y68.out.at_ 0 _ _ _ rfl).2) rfl ?_
      exact TPost.good HR.out.symm (FV.leaf _ _ _ _ _ _ _) Y68.out.rs Y68.out.mv
  rw [if_neg c91] at hr
  have N91 := Aside0.mk c91
  have x91 : (b == 91) = false := beq_eq_false_iff_ne.2 c91
  clear c91
  by_cases c92 : b = 92
  · rw [if_pos c92] at hr
    have x92 : (b == 92) = true := beq_iff_eq.2 c92
    clear c92
    cases hE : escR s p with
    | bad n =>
      rw [hE] at hr
      simp only at hr
      have HA : Aside0 (∀ W', RS W' g s p fold → Calls Try.prog 85 #[.pointer (some ⟨g, 0, none⟩)] W' fun e w' => Bad n e ∧ Mv g W' w') := ⟨fun W' h => (HES.out hlt W' h).mono fun e w' h => h.bad_elim hE⟩
      clear hq hlt hE
      have HR := Aside0.mk hr
      clear hr
      go_enter Try.func73, Try.ntmps73
      go_wp2_with (first
        | (go_at_call 85; (with_reducible refine (HA.out _ Y75.out.rs).mono ?_); rintro e w9 ⟨he, hm1⟩; unfold Bad at he; subst he; have Y76 := Aside0.mk (Y75.out.mv.trans hm1); clear hm1)
        | (go_at_call 66; (with_reducible refine (HTN.out _ 91 Y74.out.rs N91.out).mono ?_); rintro e w9 ⟨rfl, hr1, hm1⟩; have Y75 := Aside0.mk (Y74.out.rd hr1 hm1); have yk75 := Y75.out.c1; have yf75 := Y75.out.f1; have yz75 := Y75.out.c0; clear hr1 hm1)
        | (go_at_call 66; (with_reducible refine (HTN.out _ 40 Y73.out.rs N40.out).mono ?_); rintro e w9 ⟨rfl, hr1, hm1⟩; have Y74 := Aside0.mk (Y73.out.rd hr1 hm1); have yk74 := Y74.out.c1; have yf74 := Y74.out.f1; have yz74 := Y74.out.c0; clear hr1 hm1)
        | (go_at_call 66; (with_reducible refine (HTN.out _ 36 Y72.out.rs N36.out).mono ?_); rintro e w9 ⟨rfl, hr1, hm1⟩; have Y73 := Aside0.mk (Y72.out.rd hr1 hm1); have yk73 := Y73.out.c1; have yf73 := Y73.out.f1; have yz73 := Y73.out.c0; clear hr1 hm1)
        | (go_at_call 66; (with_reducible refine (HTN.out _ 94 Y71.out.rs N94.out).mono ?_); rintro e w9 ⟨rfl, hr1, hm1⟩; have Y72 := Aside0.mk (Y71.out.rd hr1 hm1); have yk72 := Y72.out.c1; have yf72 := Y72.out.f1; have yz72 := Y72.out.c0; clear hr1 hm1)
        | (go_at_call 66; (with_reducible refine (HTN.out _ 46 Y70.out.rs N46.out).mono ?_); rintro e w9 ⟨rfl, hr1, hm1⟩; have Y71 := Aside0.mk (Y70.out.rd hr1 hm1); have yk71 := Y71.out.c1; have yf71 := Y71.out.f1; have yz71 := Y71.out.c0; clear hr1 hm1)
        | (go_at_call 80; (with_reducible refine (HIX.out _).mono ?_); rintro e w9 ⟨rfl, rfl⟩)
        | (go_at_call 79; (with_reducible refine (see.calls g p s fold _ Y69.out.rs).mono ?_); rintro e w9 ⟨rfl, hb⟩; have Y70 := Aside0.mk (Y69.out.call hb); have yk70 := Y70.out.c1; have yf70 := Y70.out.f1; have yz70 := Y70.out.c0; clear hb; have hv2 := HB.out; rw [hv2]; clear hv2)
        | ((with_reducible refine gate_alloc (t := 67) (d := 2) rfl rfl ?_); refine alloc_pt rfl rfl rfl ?_; intro r2 w9 hg1 hc1 hb1; have Y69 := Aside0.mk (HQ.out.push hg1 hc1 hb1); clear hg1 hc1 hb1))
      exact ⟨rfl, TPost.bad HR.out.symm Y76.out⟩
    | ok x q2 =>
      obtain ⟨c, v9, t9⟩ := x
      rw [hE] at hr
      simp only at hr
      have HA : Aside0 (∀ W', RS W' g s p fold → Calls Try.prog 85 #[.pointer (some ⟨g, 0, none⟩)] W' fun e w' => e = .returned (.tuple #[.agg c.cells, .int .u8 v9, .bool t9]) ∧ RS w' g s q2 fold ∧ Mv g W' w') := ⟨fun W' h => (HES.out hlt W' h).mono fun e w' h => h.ok_elim hE⟩
      clear hq hlt hE
      obtain ⟨cc, hcc⟩ : ∃ cc, casedP fold c = cc := ⟨_, rfl⟩
      have HC : Aside0 (∀ W' q', RS W' g s q' fold → Calls Try.prog 86 #[.pointer (some ⟨g, 0, none⟩), .agg c.cells] W' fun e w' => e = .returned (.agg cc.cells) ∧ Below W'.heap.size W' w') := ⟨fun W' q' h => by rw [← hcc]; exact HCS.out W' q' c h⟩
      rw [hcc] at hr
      clear hcc
      have HR := Aside0.mk hr
      clear hr
      go_enter Try.func73, Try.ntmps73
      go_wp2_with (first
        | ((with_reducible refine gate_storeT (t := 67) (p := 2) rfl ?_); refine store_pt rfl 2 _ rfl _ rfl PV.nil (leafV 0 cc) rfl (Y87.out.at_ 0 _ _ _ rfl).2 ?_; intro w9 hc hm; have Y88 := Aside0.mk (Y87.out.set 0 rfl hc hm); clear hc hm)
        | ((with_reducible refine gate_build (t := 67) rfl ?_); refine build_c rfl _ rfl cc rfl ?_)
        | (go_at_call 86; (with_reducible refine (HC.out _ _ Y86.out.rs).mono ?_); rintro e w9 ⟨rfl, hb⟩; have Y87 := Aside0.mk (Y86.out.call hb); clear hb)
        | ((with_reducible refine gate_load (t := 64) (p := 5) rfl ?_); refine load_cl rfl 5 rfl _ rfl _ (Y86.out.at_ 1 _ _ _ rfl).2 ?_)
        | ((with_reducible refine gate_storeT (t := 64) (p := 5) rfl ?_); refine store_cl rfl 5 _ rfl _ rfl _ c rfl (Y85.out.at_ 1 _ _ _ rfl).2 ?_; intro w9 hc hm; have Y86 := Aside0.mk (Y85.out.set 1 rfl hc hm); clear hc hm)
        | ((with_reducible refine gate_alloc (t := 64) (d := 5) rfl rfl ?_); refine alloc_cl rfl rfl rfl ?_; intro r5 w9 hg1 hc1 hb1; have Y85 := Aside0.mk (Y84.out.push hg1 hc1 hb1); clear hg1 hc1 hb1)
        | (go_at_call 85; (with_reducible refine (HA.out _ Y83.out.rs).mono ?_); rintro e w9 ⟨rfl, hr1, hm1⟩; have Y84 := Aside0.mk (Y83.out.rd hr1 hm1); clear hr1 hm1)
        | (go_at_call 66; (with_reducible refine (HTN.out _ 91 Y82.out.rs N91.out).mono ?_); rintro e w9 ⟨rfl, hr1, hm1⟩; have Y83 := Aside0.mk (Y82.out.rd hr1 hm1); have yk83 := Y83.out.c1; have yf83 := Y83.out.f1; have yz83 := Y83.out.c0; clear hr1 hm1)
        | (go_at_call 66; (with_reducible refine (HTN.out _ 40 Y81.out.rs N40.out).mono ?_); rintro e w9 ⟨rfl, hr1, hm1⟩; have Y82 := Aside0.mk (Y81.out.rd hr1 hm1); have yk82 := Y82.out.c1; have yf82 := Y82.out.f1; have yz82 := Y82.out.c0; clear hr1 hm1)
        | (go_at_call 66; (with_reducible refine (HTN.out _ 36 Y80.out.rs N36.out).mono ?_); rintro e w9 ⟨rfl, hr1, hm1⟩; have Y81 := Aside0.mk (Y80.out.rd hr1 hm1); have yk81 := Y81.out.c1; have yf81 := Y81.out.f1; have yz81 := Y81.out.c0; clear hr1 hm1)
        | (go_at_call 66; (with_reducible refine (HTN.out _ 94 Y79.out.rs N94.out).mono ?_); rintro e w9 ⟨rfl, hr1, hm1⟩; have Y80 := Aside0.mk (Y79.out.rd hr1 hm1); have yk80 := Y80.out.c1; have yf80 := Y80.out.f1; have yz80 := Y80.out.c0; clear hr1 hm1)
        | (go_at_call 66; (with_reducible refine (HTN.out _ 46 Y78.out.rs N46.out).mono ?_); rintro e w9 ⟨rfl, hr1, hm1⟩; have Y79 := Aside0.mk (Y78.out.rd hr1 hm1); have yk79 := Y79.out.c1; have yf79 := Y79.out.f1; have yz79 := Y79.out.c0; clear hr1 hm1)
        | (go_at_call 80; (with_reducible refine (HIX.out _).mono ?_); rintro e w9 ⟨rfl, rfl⟩)
        | (go_at_call 79; (with_reducible refine (see.calls g p s fold _ Y77.out.rs).mono ?_); rintro e w9 ⟨rfl, hb⟩; have Y78 := Aside0.mk (Y77.out.call hb); have yk78 := Y78.out.c1; have yf78 := Y78.out.f1; have yz78 := Y78.out.c0; clear hb; have hv2 := HB.out; rw [hv2]; clear hv2)
        | ((with_reducible refine gate_alloc (t := 67) (d := 2) rfl rfl ?_); refine alloc_pt rfl rfl rfl ?_; intro r2 w9 hg1 hc1 hb1; have Y77 := Aside0.mk (HQ.out.push hg1 hc1 hb1); clear hg1 hc1 hb1))
      (try simp only [Exit.inBlock, Exit.then])
      refine bodyPost_ret (results_pt rfl _ _ rfl (v := (leafV 0 cc)) (Y88.out.at_ 0 _ _ _ rfl).2) rfl ?_
      exact TPost.good HR.out.symm (FV.leaf _ _ _ _ _ _ _) Y88.out.rs Y88.out.mv
  rw [if_neg c92] at hr
  have x92 : (b == 92) = false := beq_eq_false_iff_ne.2 c92
  clear c92
  obtain ⟨o1, ho1⟩ : ∃ o, onlyC b = o := ⟨_, rfl⟩
  rw [ho1] at hr
  have HON : Aside0 (∀ W', Calls Try.prog 81 #[.int .u8 b] W' fun e w' => e = .returned (.agg o1.cells) ∧ Below W'.heap.size W' w') := ⟨fun W' => by rw [← ho1]; exact only.calls b W' HSR.out.1 HSR.out.2⟩
  clear ho1 hq hlt
  obtain ⟨cc, hcc⟩ : ∃ cc, casedP fold o1 = cc := ⟨_, rfl⟩
  have HC : Aside0 (∀ W' q', RS W' g s q' fold → Calls Try.prog 86 #[.pointer (some ⟨g, 0, none⟩), .agg o1.cells] W' fun e w' => e = .returned (.agg cc.cells) ∧ Below W'.heap.size W' w') := ⟨fun W' q' h => by rw [← hcc]; exact HCS.out W' q' o1 h⟩
  rw [hcc] at hr
  clear hcc
  have HR := Aside0.mk hr
  clear hr
  go_enter Try.func73, Try.ntmps73
  go_wp2_with (first
    | ((with_reducible refine gate_storeT (t := 67) (p := 2) rfl ?_); refine store_pt rfl 2 _ rfl _ rfl PV.nil (leafV 0 cc) rfl (Y97.out.at_ 0 _ _ _ rfl).2 ?_; intro w9 hc hm; have Y98 := Aside0.mk (Y97.out.set 0 rfl hc hm); clear hc hm)
    | ((with_reducible refine gate_build (t := 67) rfl ?_); refine build_c rfl _ rfl cc rfl ?_)
    | (go_at_call 86; (with_reducible refine (HC.out _ _ Y96.out.rs).mono ?_); rintro e w9 ⟨rfl, hb⟩; have Y97 := Aside0.mk (Y96.out.call hb); clear hb)
    | (go_at_call 81; (with_reducible refine (HON.out _).mono ?_); rintro e w9 ⟨rfl, hb⟩; have Y96 := Aside0.mk ((Y95.out.at_p q).call hb); clear hb)
    | (go_at_call 66; (with_reducible refine (HTN.out _ 91 Y94.out.rs N91.out).mono ?_); rintro e w9 ⟨rfl, hr1, hm1⟩; have Y95 := Aside0.mk (Y94.out.rd hr1 hm1); have yk95 := Y95.out.c1; have yf95 := Y95.out.f1; have yz95 := Y95.out.c0; clear hr1 hm1)
    | (go_at_call 66; (with_reducible refine (HTN.out _ 40 Y93.out.rs N40.out).mono ?_); rintro e w9 ⟨rfl, hr1, hm1⟩; have Y94 := Aside0.mk (Y93.out.rd hr1 hm1); have yk94 := Y94.out.c1; have yf94 := Y94.out.f1; have yz94 := Y94.out.c0; clear hr1 hm1)
    | (go_at_call 66; (with_reducible refine (HTN.out _ 36 Y92.out.rs N36.out).mono ?_); rintro e w9 ⟨rfl, hr1, hm1⟩; have Y93 := Aside0.mk (Y92.out.rd hr1 hm1); have yk93 := Y93.out.c1; have yf93 := Y93.out.f1; have yz93 := Y93.out.c0; clear hr1 hm1)
    | (go_at_call 66; (with_reducible refine (HTN.out _ 94 Y91.out.rs N94.out).mono ?_); rintro e w9 ⟨rfl, hr1, hm1⟩; have Y92 := Aside0.mk (Y91.out.rd hr1 hm1); have yk92 := Y92.out.c1; have yf92 := Y92.out.f1; have yz92 := Y92.out.c0; clear hr1 hm1)
    | (go_at_call 66; (with_reducible refine (HTN.out _ 46 Y90.out.rs N46.out).mono ?_); rintro e w9 ⟨rfl, hr1, hm1⟩; have Y91 := Aside0.mk (Y90.out.rd hr1 hm1); have yk91 := Y91.out.c1; have yf91 := Y91.out.f1; have yz91 := Y91.out.c0; clear hr1 hm1)
    | (go_at_call 80; (with_reducible refine (HIX.out _).mono ?_); rintro e w9 ⟨rfl, rfl⟩)
    | (go_at_call 79; (with_reducible refine (see.calls g p s fold _ Y89.out.rs).mono ?_); rintro e w9 ⟨rfl, hb⟩; have Y90 := Aside0.mk (Y89.out.call hb); have yk90 := Y90.out.c1; have yf90 := Y90.out.f1; have yz90 := Y90.out.c0; clear hb; have hv2 := HB.out; rw [hv2]; clear hv2)
    | ((with_reducible refine gate_alloc (t := 67) (d := 2) rfl rfl ?_); refine alloc_pt rfl rfl rfl ?_; intro r2 w9 hg1 hc1 hb1; have Y89 := Aside0.mk (HQ.out.push hg1 hc1 hb1); clear hg1 hc1 hb1))
  (try simp only [Exit.inBlock, Exit.then])
  refine bodyPost_ret (results_pt rfl _ _ rfl (v := (leafV 0 cc)) (Y98.out.at_ 0 _ _ _ rfl).2) rfl ?_
  exact TPost.good HR.out.symm (FV.leaf _ _ _ _ _ _ _) Y98.out.rs Y98.out.mv
end Go.Proofs.Ytclgnefeankbgaa.M
namespace Go.Proofs.Ytclgnefeankbgaa.M
open Go Go.RowKit Go.Proofs.YtclgnefeankbgaaW.PrintWords Go.Proofs.YtclgnefeankbgaaW.PrintLast Go.Proofs.YtclgnefeankbgaaW.PrintMore Hand
attribute [local go_sem] Oper.semAt_some max2_int min2_int max_two min_two max_three min_three max_four min_four
set_option linter.unusedVariables false
set_option linter.unusedSimpArgs false
def repT (le mo : Int) (nu : Bool) (t : Pt) : Pt := .cons 5 C4.nil le mo nu t .nil
def repV (le mo : Int) (nu : Bool) (nb : Nat) : PV := ⟨5, C4.nil, le, mo, nu, some nb, 1, 1⟩
/-- What stands behind an atom. -/
def repL (s : ByteArray) : Nat → Nat → Pt → Rs Pt
  | 0, p, t => .ok t p
  | n + 1, p, t =>
    if takeP s p 42 = true then repL s n (p + 1) (repT 0 (-1) false t)
    else if takeP s p 43 = true then repL s n (p + 1) (repT 1 (-1) false t)
    else if takeP s p 63 = true then repL s n (p + 1) (repT 0 1 false t)
    else if takeP s p 123 = true then
      match countR s (p + 1) with
      | .bad k => .bad k
      | .ok x q => repL s n q (repT x.1 x.2 true t)
    else .ok t p
def repR (alt : Nat → Rs Pt) (s : ByteArray) (fold : Bool) (p : Nat) : Rs Pt :=
  match atomR alt s fold p with
  | .bad n => .bad n
  | .ok t q => repL s (s.size + 1 - q) q t
theorem countR_ok {s : ByteArray} {p q : Nat} {x : Int × Int} (hp : p ≤ s.size) (h : countR s p = .ok x q) : p < q ∧ q ≤ s.size := by
  unfold countR at h
  cases h1 : numberR s 0 p with
  | bad n => rw [h1] at h; cases h
  | ok le q1 =>
    rw [h1] at h
    simp only at h
    have h2 := numberR_ok hp h1
    by_cases t1 : takeP s q1 44 = true
    · rw [if_pos t1] at h
      have h3 := takeP_lt t1
      by_cases d : seeP s (q1 + 1) = 125
      · rw [if_pos d] at h
        have h4 : q1 + 1 < s.size := seeP_lt (by rw [d]; decide)
        cases h
        omega
      · rw [if_neg d] at h
        cases h5 : numberR s le (q1 + 1) with
        | bad n => rw [h5] at h; cases h
        | ok mo q2 =>
          rw [h5] at h
          simp only at h
          have h6 := numberR_ok (by omega) h5
          by_cases t3 : takeP s q2 125 = true
          · rw [if_pos t3] at h
            have h7 := takeP_lt t3
            cases h
            omega
          · rw [if_neg t3] at h; cases h
    · rw [if_neg t1] at h
      by_cases t3 : takeP s q1 125 = true
      · rw [if_pos t3] at h
        have h7 := takeP_lt t3
        cases h
        omega
      · rw [if_neg t3] at h; cases h
theorem brL_ok {s : ByteArray} : ∀ (n p : Nat) (f : Bool) (o c : C4) (q : Nat), p ≤ s.size → s.size + 1 ≤ p + n → brL s n p f o = .ok c q → p ≤ q ∧ q < s.size
  | 0, p, f, o, c, q, hp, hn, h => by omega
  | n + 1, p, f, o, c, q, hp, hn, h => by
    rw [brL] at h
    by_cases c1 : f = false ∧ seeP s p = 93
    · rw [if_pos c1] at h
      have : p < s.size := seeP_lt (by rw [c1.2]; decide)
      cases h
      omega
    rw [if_neg c1] at h
    cases h1 : oneR s p f with
    | bad k => rw [h1] at h; cases h
    | ok x q1 =>
      rw [h1] at h
      simp only at h
      have h2 := oneR_ok h1
      by_cases c2 : x.2.2 = true ∧ seeP s q1 = 45 ∧ seeP s (q1 + 1) ≠ 93
      · rw [if_pos c2] at h
        cases h3 : oneR s (q1 + 1) false with
        | bad k => rw [h3] at h; cases h
        | ok y q2 =>
          rw [h3] at h
          simp only at h
          have h4 := oneR_ok h3
          by_cases c3 : y.2.2 = false ∨ y.2.1 < x.2.1
          · rw [if_pos c3] at h; cases h
          · rw [if_neg c3] at h
            have := brL_ok n q2 false _ c q h4.2.1 (by omega) h
            omega
      · rw [if_neg c2] at h
        have := brL_ok n q1 false _ c q h2.2.1 (by omega) h
        omega
theorem brR_ok {s : ByteArray} {fold : Bool} {p q : Nat} {c : C4} (hp : p ≤ s.size) (h : brR s fold p = .ok c q) : p < q ∧ q ≤ s.size := by
  unfold brR at h
  have hb : p ≤ brP s p ∧ brP s p ≤ s.size := by
    unfold brP
    by_cases d : takeP s p 94 = true
    · rw [if_pos d]; have := takeP_lt d; omega
    · rw [if_neg d]; omega
  cases h1 : brL s (s.size + 1 - brP s p) (brP s p) true C4.nil with
  | bad k => rw [h1] at h; cases h
  | ok o q1 =>
    rw [h1] at h
    have h2 := brL_ok _ _ _ _ _ _ hb.2 (by omega) h1
    unfold brEnd at h
    cases h
    omega
theorem atomR_ok {alt : Nat → Rs Pt} {s : ByteArray} {fold : Bool} {p q : Nat} {t : Pt} (ha : ∀ t q, p < s.size → alt (p + 1) = .ok t q → p + 1 ≤ q ∧ q ≤ s.size) (h : atomR alt s fold p = .ok t q) : p < q ∧ q ≤ s.size := by
  unfold atomR at h
  by_cases c1 : seeP s p < 32 ∨ 126 < seeP s p ∨ 0 ≤ stopI (seeP s p)
  · rw [if_pos c1] at h; cases h
  rw [if_neg c1] at h
  have hlt : p < s.size := seeP_lt (fun e => c1 (.inl (by rw [e]; decide)))
  by_cases c2 : seeP s p = 46
  · rw [if_pos c2] at h; cases h; omega
  rw [if_neg c2] at h
  by_cases c3 : seeP s p = 94
  · rw [if_pos c3] at h; cases h; omega
  rw [if_neg c3] at h
  by_cases c4 : seeP s p = 36
  · rw [if_pos c4] at h; cases h; omega
  rw [if_neg c4] at h
  by_cases c5 : seeP s p = 40
  · rw [if_pos c5] at h
    cases h1 : alt (p + 1) with
    | bad n => rw [h1] at h; cases h
    | ok t1 q1 =>
      rw [h1] at h
      simp only at h
      have h2 := ha t1 q1 hlt h1
      by_cases d : takeP s q1 41 = true
      · rw [if_pos d] at h
        have := takeP_lt d
        cases h
        omega
      · rw [if_neg d] at h; cases h
  rw [if_neg c5] at h
  by_cases c6 : seeP s p = 91
  · rw [if_pos c6] at h
    cases h1 : brR s fold (p + 1) with
    | bad n => rw [h1] at h; cases h
    | ok c q1 =>
      rw [h1] at h
      have h2 := brR_ok (by omega) h1
      cases h
      omega
  rw [if_neg c6] at h
  by_cases c7 : seeP s p = 92
  · rw [if_pos c7] at h
    cases h1 : escR s p with
    | bad n => rw [h1] at h; cases h
    | ok x q1 =>
      rw [h1] at h
      have h2 := escR_ok hlt h1
      cases h
      omega
  rw [if_neg c7] at h
  cases h
  omega
theorem repL_ok {s : ByteArray} : ∀ (n p : Nat) (t u : Pt) (q : Nat), p ≤ s.size → repL s n p t = .ok u q → p ≤ q ∧ q ≤ s.size
  | 0, p, t, u, q, hp, h => by
    rw [repL] at h
    cases h
    omega
  | n + 1, p, t, u, q, hp, h => by
    rw [repL] at h
    by_cases c1 : takeP s p 42 = true
    · rw [if_pos c1] at h
      have := takeP_lt c1
      have := repL_ok n (p + 1) _ u q (by omega) h
      omega
    rw [if_neg c1] at h
    by_cases c2 : takeP s p 43 = true
    · rw [if_pos c2] at h
      have := takeP_lt c2
      have := repL_ok n (p + 1) _ u q (by omega) h
      omega
    rw [if_neg c2] at h
    by_cases c3 : takeP s p 63 = true
    · rw [if_pos c3] at h
      have := takeP_lt c3
      have := repL_ok n (p + 1) _ u q (by omega) h
      omega
    rw [if_neg c3] at h
    by_cases c4 : takeP s p 123 = true
    · rw [if_pos c4] at h
      have := takeP_lt c4
      cases h1 : countR s (p + 1) with
      | bad k => rw [h1] at h; cases h
      | ok x q1 =>
        rw [h1] at h
        simp only at h
        have h2 := countR_ok (by omega) h1
        have := repL_ok n q1 _ u q (by omega) h
        omega
    rw [if_neg c4] at h
    cases h
    omega
theorem repR_ok {alt : Nat → Rs Pt} {s : ByteArray} {fold : Bool} {p q : Nat} {t : Pt} (ha : ∀ t q, p < s.size → alt (p + 1) = .ok t q → p + 1 ≤ q ∧ q ≤ s.size) (h : repR alt s fold p = .ok t q) : p < q ∧ q ≤ s.size := by
  unfold repR at h
  cases h1 : atomR alt s fold p with
  | bad k => rw [h1] at h; cases h
  | ok u q1 =>
    rw [h1] at h
    have h2 := atomR_ok ha h1
    have := repL_ok _ q1 u t q h2.2 h
    omega
theorem Mv.own2 {g x : Nat} {A B C : World} (h : Mv g A B) (k : Mv2 g x B C) (hx : A.heap.size ≤ x) : Mv g A C := ⟨k.os.trans h.os, k.tape.trans h.tape, k.output.trans h.output, Nat.le_trans h.size k.size, fun i hi hg => (k.block i (Nat.lt_of_lt_of_le hi h.size) hg (by omega)).trans (h.block i hi hg)⟩
section
variable {g p q : Nat} {w W W' : World} {s : ByteArray} {fold : Bool} {L : List (Nat × TypeId × Array Value)} {R : List (Pt × List PV)}
/-- The reader and a variable may have changed. -/
theorem QT.cnt (h : QT g w W s p fold L R) (i : Nat) {x : Nat} {v v' : PV} (hi : L[i]? = some (x, 67, v.cells)) (hc : CS g x W W' s q fold v') : QT g w W' s q fold (L.set i (x, 67, v'.cells)) R := by
  have hb := (h.at_ i _ _ _ hi).1
  have hm := hc.mv
  have hlt := (List.getElem?_eq_some_iff.1 hi).1
  have e : (L.set i (x, 67, v'.cells)).map Prod.fst = L.map Prod.fst := by
    apply List.ext_getElem?
    intro j
    rw [List.getElem?_map, List.getElem?_map, List.getElem?_set]
    by_cases e : i = j
    · subst e
      rw [if_pos rfl, if_pos hlt, hi]
      rfl
    · rw [if_neg e]
  have hg := h.lg
  refine ⟨h.lg, hc.rs, h.mv.own2 hm hb, fun j b2 T2 c2 hj => ?_, by rw [e]; exact h.nd, fun j t vs hj => ?_⟩
  · rw [List.getElem?_set] at hj
    by_cases e : i = j
    · subst e
      rw [if_pos rfl, if_pos hlt] at hj
      cases hj
      exact ⟨hb, hc.va⟩
    · rw [if_neg e] at hj
      obtain ⟨h1, h2⟩ := h.at_ j b2 T2 c2 hj
      refine ⟨h1, (hm.block b2 (blk_lt h2) (by omega) (fun e2 => e ?_)).trans h2⟩
      have hn := List.pairwise_iff_getElem.1 h.nd
      have hjl := (List.getElem?_eq_some_iff.1 hj).1
      have e3 : (L.map Prod.fst)[i]'(by simpa using hlt) = x := by simp [(List.getElem?_eq_some_iff.1 hi).2]
      have e4 : (L.map Prod.fst)[j]'(by simpa using hjl) = b2 := by simp [(List.getElem?_eq_some_iff.1 hj).2]
      rcases Nat.lt_trichotomy i j with h6 | h6 | h6
      · exact absurd (by rw [e3, e4, e2]) (hn i j (by simpa using hlt) (by simpa using hjl) h6)
      · exact h6
      · exact absurd (by rw [e3, e4, e2]) (hn j i (by simpa using hjl) (by simpa using hlt) h6)
  · rw [e]
    refine (h.tr j t vs hj).move fun k hk hg2 => hm.block k hg2 (by have := hk.1; omega) (fun e2 => hk.2 ?_)
    rw [e2]
    exact List.mem_map.2 ⟨_, List.mem_of_getElem? hi, rfl⟩
theorem QT.cell (h : QT g w W s p fold L R) (i : Nat) {b : Nat} {T : TypeId} {cs : Array Value} (hi : L[i]? = some (b, T, cs)) (j : Nat) (u : Value) (cs' : Array Value) (he : cs' = cs.set! j u) : QT g w (W.setCell ⟨b, j, none⟩ u) s p fold (L.set i (b, T, cs')) R := h.set i hi (by
  unfold VAt
  rw [he]
  exact blk_set (h.at_ i _ _ _ hi).2 j u) ((Mv.refl b W).set j u)
theorem QT.add (h : QT g w W s p fold L R) {t : Pt} {vs : List PV} (ht : FV W (fun b => w.heap.size ≤ b ∧ b ∉ L.map Prod.fst) t vs) : QT g w W s p fold L (R ++ [(t, vs)]) := ⟨h.lg, h.rs, h.mv, h.at_, h.nd, fun i t2 vs2 hi => by
  by_cases e : i < R.length
  · rw [List.getElem?_append_left e] at hi
    exact h.tr i t2 vs2 hi
  · rw [List.getElem?_append_right (by omega)] at hi
    have e0 : i - R.length = 0 := by
      have := (List.getElem?_eq_some_iff.1 hi).1
      simp at this
      omega
    rw [e0] at hi
    cases hi
    exact ht⟩
theorem QT.row2 (h : QT g w W s p fold L R) {t : Pt} {v : PV} (ht : FV W (fun b => w.heap.size ≤ b ∧ b ∉ L.map Prod.fst) t [v]) {nb : Nat} (hn : nb = W.heap.size) (hW : W' = W.alloc (.cells v.cells 67)) (le mo : Int) (nu : Bool) : QT g w W' s p fold L (R ++ [(repT le mo nu t, [repV le mo nu nb])]) := by
  subst hn
  have hb : Below W.heap.size W W' := by rw [hW]; exact below_alloc (Below.refl _ _) _
  exact (h.call hb).add ((h.row ht hW 5 C4.nil le mo nu).tr 0 _ _ rfl)
theorem QT.cellAt (h : QT g w W s p fold L R) (i j : Nat) {b : Nat} {T : TypeId} {cs : Array Value} (hi : L[i]? = some (b, T, cs)) : W.cell? ⟨b, j, none⟩ = cs[j]? := blk_cell (h.at_ i _ _ _ hi).2 j
theorem QT.cellFz (h : QT g w W s p fold L R) (i j : Nat) {b : Nat} {T : TypeId} {cs : Array Value} (hi : L[i]? = some (b, T, cs)) : W.frozen? ⟨b, j, none⟩ = false := blk_frozen (h.at_ i _ _ _ hi).2 j
end
section
variable {ops : Array Oper} {rest : List Oper} {o : Oper} {a : Act} {Q : Exit → Act → World → Prop} {w : World}
theorem gate_row {t : TypeId} {n : Nat} {parts : Array (Nat × Operand)} (_ho : o.op = .buildSlice t n parts) (h : wpList Try.prog ops Q (o :: rest) a w) : wpList Try.prog ops Q (o :: rest) a w := h
theorem pt_info : (Try.prog.info? 67).map (fun i => (i.zero, i.size, i.bytes)) = some (some (.agg PV.nil.cells), 9, 88) := by kernel_rfl
theorem pt_parts : ∃ i, Try.prog.info? 67 = some i ∧ i.zero = some (.agg PV.nil.cells) ∧ i.size = 9 ∧ i.bytes = 88 := by
  obtain ⟨i, hi, he⟩ := Option.map_eq_some_iff.1 pt_info
  have h0 := congrArg Prod.fst he
  have h1 := congrArg Prod.snd he
  exact ⟨i, hi, h0, congrArg Prod.fst h1, congrArg Prod.snd h1⟩
theorem row_pt (hg : o.guard = none) (x : Operand) (hop : o.op = .buildSlice 65 1 #[(0, x)]) (v : PV) (hx : a.eval x = .agg v.cells) (hK : ∀ nb w', nb = w.heap.size → w' = w.alloc (.cells v.cells 67) → wpList Try.prog ops Q rest (a.put o.dst (slOf (some nb) 1 1)) w') : wpList Try.prog ops Q (o :: rest) a w := by
  obtain ⟨i, hi, hz, hs, _⟩ := pt_parts
  refine wpList_buildSlice hg 65 67 1 _ hop v.cells i (.agg PV.nil.cells) Try.underlying65 hi hz (by rw [hs]; decide) (by rw [hs]; decide) ?_ (hK _ _ rfl rfl)
  rw [hs]
  simp only [List.map_toArray, List.map_cons, List.map_nil, hx]
  kernel_rfl
theorem build_r (hg : o.guard = none) (x : Operand) (hop : o.op = .build 67 #[(0, .const (.int .i64 5)), (3, .const (.int .i64 (-1))), (5, x)]) (nb : Nat) (hx : a.eval x = slOf (some nb) 1 1) (hK : wpList Try.prog ops Q rest (a.put o.dst (.agg (repV 0 (-1) false nb).cells)) w) : wpList Try.prog ops Q (o :: rest) a w := by
  have hb : Try.prog.built 67 [(0, .int .i64 5), (3, .int .i64 (-1)), (5, slOf (some nb) 1 1)] = some (repV 0 (-1) false nb).cells := by kernel_rfl
  have e1 : a.eval (.const (.int .i64 5)) = .int .i64 5 := rfl
  have e2 : a.eval (.const (.int .i64 (-1))) = .int .i64 (-1) := rfl
  refine wpList_build hg 67 _ hop ?_ ?_
  · simp only [List.map_toArray, List.map_cons, List.map_nil, e1, e2, hx, hb]; rfl
  · simp only [List.map_toArray, List.map_cons, List.map_nil, e1, e2, hx, hb, Option.getD_some]
    exact hK
end
set_option maxHeartbeats 8000000 in
set_option maxRecDepth 100000 in
theorem rep.calls (g p : Nat) (s : ByteArray) (fold : Bool) (alt : Nat → Rs Pt) (W : World) (h : RS W g s p fold) (hs : s.size ≤ 200) (ha : ∀ t q, p < s.size → alt (p + 1) = .ok t q → p + 1 ≤ q ∧ q ≤ s.size) (halt : p < s.size → ∀ W', RS W' g s (p + 1) fold → Calls Try.prog 51 #[.pointer (some ⟨g, 0, none⟩)] W' fun e w' => TPost g s fold W' (alt (p + 1)) e w') :
    Calls Try.prog 70 #[.pointer (some ⟨g, 0, none⟩)] W fun e w' => TPost g s fold W (repR alt s fold p) e w' := by
  have HQ := Aside0.mk (QT.nil h)
  obtain ⟨r, hr⟩ : ∃ r, repR alt s fold p = r := ⟨_, rfl⟩
  rw [hr]
  unfold repR at hr
  have HAT : Aside0 (∀ W', RS W' g s p fold → Calls Try.prog 73 #[.pointer (some ⟨g, 0, none⟩)] W' fun e w' => TPost g s fold W' (atomR alt s fold p) e w') := ⟨fun W' h => atom.calls g p s fold alt W' h hs halt⟩
  have HTK : Aside0 (∀ W' q b, RS W' g s q fold → takeP s q b = true → Calls Try.prog 66 #[.pointer (some ⟨g, 0, none⟩), .int .u8 b] W' fun e w' => e = .returned (.bool true) ∧ RS w' g s (q + 1) fold ∧ Mv g W' w') := ⟨fun W' q b h1 h2 => by have := take.calls g q s fold b W' h1 hs; rw [h2, if_pos rfl] at this; exact this⟩
  have HTN : Aside0 (∀ W' q b, RS W' g s q fold → takeP s q b = false → Calls Try.prog 66 #[.pointer (some ⟨g, 0, none⟩), .int .u8 b] W' fun e w' => e = .returned (.bool false) ∧ RS w' g s q fold ∧ Mv g W' w') := ⟨fun W' q b h1 h2 => by have := take.calls g q s fold b W' h1 hs; rw [h2, if_neg (by simp)] at this; exact this⟩
  have HCN : Aside0 (∀ (W' W0 : World) (q x : Nat) (v : PV) L R, QT g W0 W' s q fold L R → L[2]? = some (x, 67, v.cells) → q ≤ s.size → Calls Try.prog 74 #[.pointer (some ⟨g, 0, none⟩), .pointer (some ⟨x, 0, none⟩)] W' fun e w' => CPost g x s fold W' v (countR s q) e w') := ⟨fun W' W0 q x v L R h0 h1 h2 => count.calls g x q s fold v W' h0.rs (h0.at_ 2 _ _ _ h1).2 (by have := (h0.at_ 2 _ _ _ h1).1; have := h0.lg; omega) hs h2⟩
  have hao := fun t q => atomR_ok (fold := fold) (t := t) (q := q) ha
  clear h halt ha
  cases hE : atomR alt s fold p with
  | bad n =>
    rw [hE] at hr
    simp only at hr
    have HA : Aside0 (∀ W', RS W' g s p fold → Calls Try.prog 73 #[.pointer (some ⟨g, 0, none⟩)] W' fun e w' => Bad n e ∧ Mv g W' w') := ⟨fun W' h => (HAT.out W' h).mono fun e w' h => h.bad_elim hE⟩
    have HR := Aside0.mk hr
    clear hr hE hao
    go_enter Try.func70, Try.ntmps70
    go_wp2_with (first
      | (go_at_call 73; (with_reducible refine (HA.out _ Y1.out.rs).mono ?_); rintro e w9 ⟨he, hm1⟩; unfold Bad at he; subst he; have Y2 := Aside0.mk (Y1.out.mv.trans hm1); clear hm1)
      | ((with_reducible refine gate_alloc (t := 67) (d := 2) rfl rfl ?_); refine alloc_pt rfl rfl rfl ?_; intro r2 w9 hg1 hc1 hb1; have Y1 := Aside0.mk (HQ.out.push hg1 hc1 hb1); clear hg1 hc1 hb1))
    exact ⟨rfl, TPost.bad HR.out.symm Y2.out⟩
  | ok t0 q0 =>
    rw [hE] at hr
    simp only at hr
    have h00 := hao t0 q0 hE
    have HA : Aside0 (∀ W', RS W' g s p fold → Calls Try.prog 73 #[.pointer (some ⟨g, 0, none⟩)] W' fun e w' => ∃ v : PV, e = .returned (.agg v.cells) ∧ FV w' (fun b => W'.heap.size ≤ b) t0 [v] ∧ RS w' g s q0 fold ∧ Mv g W' w') := ⟨fun W' h => (HAT.out W' h).mono fun e w' h => h.ok_elim hE⟩
    have HR := Aside0.mk hr
    clear hr hE hao HAT
    go_enter Try.func70, Try.ntmps70
    go_wp2_with (first
      | ((with_reducible refine gate_storeT (t := 67) (p := 3) rfl ?_); refine store_pt rfl 3 _ rfl _ rfl PV.nil v0 rfl (Y5.out.at_ 1 _ _ _ rfl).2 ?_; intro w9 hc hm; have Y6 := Aside0.mk (Y5.out.set 1 rfl hc hm); clear hc hm)
      | ((with_reducible refine gate_alloc (t := 67) (d := 3) rfl rfl ?_); refine alloc_pt rfl rfl rfl ?_; intro r3 w9 hg1 hc1 hb1; have Y5 := Aside0.mk (Y4.out.push hg1 hc1 hb1); clear hg1 hc1 hb1)
      | (go_at_call 73; (with_reducible refine (HA.out _ Y3.out.rs).mono ?_); rintro e w9 ⟨v0, rfl, ht1, hr1, hm1⟩; have Y4 := Aside0.mk (Y3.out.tree hr1 hm1 ht1); clear ht1 hr1 hm1)
      | ((with_reducible refine gate_alloc (t := 67) (d := 2) rfl rfl ?_); refine alloc_pt rfl rfl rfl ?_; intro r2 w9 hg1 hc1 hb1; have Y3 := Aside0.mk (HQ.out.push hg1 hc1 hb1); clear hg1 hc1 hb1))
    go_simp
    go_loopg [] (s.size + 1 - q0) (fun kq w' => ∃ (q : Nat) (t : Pt) (v : PV), s.size + 1 ≤ q + kq ∧ q ≤ s.size ∧ Aside0 (repL s kq q t = r) ∧ Aside0 (QT g W w' s q fold [(r2, 67, PV.nil.cells), (r3, 67, v.cells)] [(t, [v])]))
    case atStart => exact ⟨q0, t0, v0, by omega, h00.2, HR, ⟨Y6.out⟩⟩
    case round =>
      clear HR HQ h00
      obtain ⟨q, t, v, hq, hqs, HB0, HQ⟩ := hrel
      obtain ⟨k, rfl⟩ : ∃ k, gk = k + 1 := ⟨gk - 1, by omega⟩
      have hb := HB0.out
      rw [repL] at hb
      clear HB0
      by_cases c42 : takeP s q 42 = true
      · rw [if_pos c42] at hb
        have HE := Aside0.mk c42
        have hlt := takeP_lt c42
        clear c42
        have HB1 := Aside0.mk hb
        clear hb
        go_wp2_with (first
          | ((with_reducible refine gate_storeT (t := 67) (p := 3) rfl ?_); refine store_pt rfl 3 _ rfl _ rfl v (repV 0 (-1) false nb) rfl (Y10.out.at_ 1 _ _ _ rfl).2 ?_; intro w9 hc hm; have Y11 := Aside0.mk (Y10.out.set 1 rfl hc hm); clear hc hm)
          | ((with_reducible refine gate_load (t := 67) (p := 4) rfl ?_); refine load_pt rfl 4 rfl _ rfl (repV 0 (-1) false nb) (Y10.out.at_ 2 _ _ _ rfl).2 ?_)
          | (go_at_call 66; (with_reducible refine (HTK.out _ q 42 Y9.out.rs HE.out).mono ?_); rintro e w9 ⟨rfl, hr1, hm1⟩; have Y10 := Aside0.mk (Y9.out.rd hr1 hm1); clear hr1 hm1)
          | ((with_reducible refine gate_storeT (t := 67) (p := 4) rfl ?_); refine store_pt rfl 4 _ rfl _ rfl PV.nil (repV 0 (-1) false nb) rfl (Y8.out.at_ 2 _ _ _ rfl).2 ?_; intro w9 hc hm; have Y9 := Aside0.mk (Y8.out.set 2 rfl hc hm); clear hc hm)
          | ((with_reducible refine gate_alloc (t := 67) (d := 4) rfl rfl ?_); refine alloc_pt rfl rfl rfl ?_; intro r4 w9 hg1 hc1 hb1; have Y8 := Aside0.mk (Y7.out.push hg1 hc1 hb1); clear hg1 hc1 hb1)
          | ((with_reducible refine gate_build (t := 67) rfl ?_); refine build_r rfl _ rfl nb rfl ?_)
          | ((with_reducible refine gate_row (t := 65) (n := 1) rfl ?_); refine row_pt rfl _ rfl v rfl ?_; intro nb w9 hn1 hw1; have Y7 := Aside0.mk (HQ.out.row2 (HQ.out.tr 0 _ _ rfl) hn1 hw1 0 (-1) false); clear hn1 hw1)
          | ((with_reducible refine gate_load (t := 67) (p := 3) rfl ?_); refine load_pt rfl 3 rfl _ rfl v (HQ.out.at_ 1 _ _ _ rfl).2 ?_))
        go_roundg k
        case measure => omega
        case rel => exact ⟨q + 1, repT 0 (-1) false t, repV 0 (-1) false nb, by omega, by omega, HB1, ⟨(Y11.out.more (Y11.out.tr 1 _ _ rfl)).take 2⟩⟩
      rw [if_neg c42] at hb
      have N42 := Aside0.mk (Bool.eq_false_iff.2 c42)
      clear c42
      by_cases c43 : takeP s q 43 = true
      · rw [if_pos c43] at hb
        have HE := Aside0.mk c43
        have hlt := takeP_lt c43
        clear c43
        have HB1 := Aside0.mk hb
        clear hb
        go_wp2_with (first
          | ((with_reducible refine gate_storeT (t := 67) (p := 3) rfl ?_); refine store_pt rfl 3 _ rfl _ rfl v (repV 1 (-1) false nb) rfl ((Y16.out.cell 2 (b := r4) rfl 5 (.int .i64 1) (repV 1 (-1) false nb).cells rfl).at_ 1 _ _ _ rfl).2 ?_; intro w9 hc hm; have Y17 := Aside0.mk ((Y16.out.cell 2 (b := r4) rfl 5 (.int .i64 1) (repV 1 (-1) false nb).cells rfl).set 1 rfl hc hm); clear hc hm)
          | ((with_reducible refine gate_load (t := 67) (p := 4) rfl ?_); refine load_pt rfl 4 rfl _ rfl (repV 1 (-1) false nb) ((Y16.out.cell 2 (b := r4) rfl 5 (.int .i64 1) (repV 1 (-1) false nb).cells rfl).at_ 2 _ _ _ rfl).2 ?_)
          | (go_at_call 66; (with_reducible refine (HTK.out _ q 43 Y15.out.rs HE.out).mono ?_); rintro e w9 ⟨rfl, hr1, hm1⟩; have Y16 := Aside0.mk (Y15.out.rd hr1 hm1); clear hr1 hm1; have uc5_16 := Y16.out.cellAt 2 5 (b := r4) rfl; have uf5_16 := Y16.out.cellFz 2 5 (b := r4) rfl; have uc6_16 := Y16.out.cellAt 2 6 (b := r4) rfl; have uf6_16 := Y16.out.cellFz 2 6 (b := r4) rfl)
          | (go_at_call 66; (with_reducible refine (HTN.out _ q 42 Y14.out.rs N42.out).mono ?_); rintro e w9 ⟨rfl, hr1, hm1⟩; have Y15 := Aside0.mk (Y14.out.rd hr1 hm1); clear hr1 hm1)
          | ((with_reducible refine gate_storeT (t := 67) (p := 4) rfl ?_); refine store_pt rfl 4 _ rfl _ rfl PV.nil (repV 0 (-1) false nb) rfl (Y13.out.at_ 2 _ _ _ rfl).2 ?_; intro w9 hc hm; have Y14 := Aside0.mk (Y13.out.set 2 rfl hc hm); clear hc hm)
          | ((with_reducible refine gate_alloc (t := 67) (d := 4) rfl rfl ?_); refine alloc_pt rfl rfl rfl ?_; intro r4 w9 hg1 hc1 hb1; have Y13 := Aside0.mk (Y12.out.push hg1 hc1 hb1); clear hg1 hc1 hb1)
          | ((with_reducible refine gate_build (t := 67) rfl ?_); refine build_r rfl _ rfl nb rfl ?_)
          | ((with_reducible refine gate_row (t := 65) (n := 1) rfl ?_); refine row_pt rfl _ rfl v rfl ?_; intro nb w9 hn1 hw1; have Y12 := Aside0.mk (HQ.out.row2 (HQ.out.tr 0 _ _ rfl) hn1 hw1 0 (-1) false); clear hn1 hw1)
          | ((with_reducible refine gate_load (t := 67) (p := 3) rfl ?_); refine load_pt rfl 3 rfl _ rfl v (HQ.out.at_ 1 _ _ _ rfl).2 ?_))
        go_roundg k
        case measure => omega
        case rel => exact ⟨q + 1, repT 1 (-1) false t, repV 1 (-1) false nb, by omega, by omega, HB1, ⟨(Y17.out.more ((Y17.out.tr 1 _ _ rfl).re 5 C4.nil 1 (-1) false)).take 2⟩⟩
      rw [if_neg c43] at hb
      have N43 := Aside0.mk (Bool.eq_false_iff.2 c43)
      clear c43
      by_cases c63 : takeP s q 63 = true
      · rw [if_pos c63] at hb
        have HE := Aside0.mk c63
        have hlt := takeP_lt c63
        clear c63
        have HB1 := Aside0.mk hb
        clear hb
        go_wp2_with (first
          | ((with_reducible refine gate_storeT (t := 67) (p := 3) rfl ?_); refine store_pt rfl 3 _ rfl _ rfl v (repV 0 1 false nb) rfl ((Y23.out.cell 2 (b := r4) rfl 6 (.int .i64 1) (repV 0 1 false nb).cells rfl).at_ 1 _ _ _ rfl).2 ?_; intro w9 hc hm; have Y24 := Aside0.mk ((Y23.out.cell 2 (b := r4) rfl 6 (.int .i64 1) (repV 0 1 false nb).cells rfl).set 1 rfl hc hm); clear hc hm)
          | ((with_reducible refine gate_load (t := 67) (p := 4) rfl ?_); refine load_pt rfl 4 rfl _ rfl (repV 0 1 false nb) ((Y23.out.cell 2 (b := r4) rfl 6 (.int .i64 1) (repV 0 1 false nb).cells rfl).at_ 2 _ _ _ rfl).2 ?_)
          | (go_at_call 66; (with_reducible refine (HTK.out _ q 63 Y22.out.rs HE.out).mono ?_); rintro e w9 ⟨rfl, hr1, hm1⟩; have Y23 := Aside0.mk (Y22.out.rd hr1 hm1); clear hr1 hm1; have uc5_23 := Y23.out.cellAt 2 5 (b := r4) rfl; have uf5_23 := Y23.out.cellFz 2 5 (b := r4) rfl; have uc6_23 := Y23.out.cellAt 2 6 (b := r4) rfl; have uf6_23 := Y23.out.cellFz 2 6 (b := r4) rfl)
          | (go_at_call 66; (with_reducible refine (HTN.out _ q 43 Y21.out.rs N43.out).mono ?_); rintro e w9 ⟨rfl, hr1, hm1⟩; have Y22 := Aside0.mk (Y21.out.rd hr1 hm1); clear hr1 hm1)
          | (go_at_call 66; (with_reducible refine (HTN.out _ q 42 Y20.out.rs N42.out).mono ?_); rintro e w9 ⟨rfl, hr1, hm1⟩; have Y21 := Aside0.mk (Y20.out.rd hr1 hm1); clear hr1 hm1)
          | ((with_reducible refine gate_storeT (t := 67) (p := 4) rfl ?_); refine store_pt rfl 4 _ rfl _ rfl PV.nil (repV 0 (-1) false nb) rfl (Y19.out.at_ 2 _ _ _ rfl).2 ?_; intro w9 hc hm; have Y20 := Aside0.mk (Y19.out.set 2 rfl hc hm); clear hc hm)
          | ((with_reducible refine gate_alloc (t := 67) (d := 4) rfl rfl ?_); refine alloc_pt rfl rfl rfl ?_; intro r4 w9 hg1 hc1 hb1; have Y19 := Aside0.mk (Y18.out.push hg1 hc1 hb1); clear hg1 hc1 hb1)
          | ((with_reducible refine gate_build (t := 67) rfl ?_); refine build_r rfl _ rfl nb rfl ?_)
          | ((with_reducible refine gate_row (t := 65) (n := 1) rfl ?_); refine row_pt rfl _ rfl v rfl ?_; intro nb w9 hn1 hw1; have Y18 := Aside0.mk (HQ.out.row2 (HQ.out.tr 0 _ _ rfl) hn1 hw1 0 (-1) false); clear hn1 hw1)
          | ((with_reducible refine gate_load (t := 67) (p := 3) rfl ?_); refine load_pt rfl 3 rfl _ rfl v (HQ.out.at_ 1 _ _ _ rfl).2 ?_))
        go_roundg k
        case measure => omega
        case rel => exact ⟨q + 1, repT 0 1 false t, repV 0 1 false nb, by omega, by omega, HB1, ⟨(Y24.out.more ((Y24.out.tr 1 _ _ rfl).re 5 C4.nil 0 1 false)).take 2⟩⟩
      rw [if_neg c63] at hb
      have N63 := Aside0.mk (Bool.eq_false_iff.2 c63)
      clear c63
      by_cases c123 : takeP s q 123 = true
      · rw [if_pos c123] at hb
        have HE := Aside0.mk c123
        have hlt := takeP_lt c123
        clear c123
        obtain ⟨q1, hq1⟩ : ∃ q1, q + 1 = q1 := ⟨_, rfl⟩
        rw [hq1] at hb
        have HTK1 : Aside0 (∀ W', RS W' g s q fold → Calls Try.prog 66 #[.pointer (some ⟨g, 0, none⟩), .int .u8 123] W' fun e w' => e = .returned (.bool true) ∧ RS w' g s q1 fold ∧ Mv g W' w') := ⟨fun W' h => by rw [← hq1]; exact HTK.out W' q 123 h HE.out⟩
        have HQ1 : Aside0 (q1 ≤ s.size) := ⟨by omega⟩
        cases hE2 : countR s q1 with
        | bad n =>
          rw [hE2] at hb
          simp only at hb
          have HE2 := Aside0.mk hE2
          clear hE2
          have HB1 := Aside0.mk hb
          clear hb
          go_wp2_with (first
            | (go_at_call 74; (with_reducible refine (HCN.out _ _ q1 r4 (repV 0 (-1) false nb) _ _ Y31.out rfl HQ1.out).mono ?_); intro e w9 hc; obtain ⟨he, hm1⟩ := hc.bad_elim HE2.out; unfold Bad at he; subst he; have Y32 := Aside0.mk (Y31.out.mv.own2 hm1 (Y31.out.at_ 2 _ _ _ rfl).1); clear hm1 hc)
            | (go_at_call 66; (with_reducible refine (HTK1.out _ Y30.out.rs).mono ?_); rintro e w9 ⟨rfl, hr1, hm1⟩; have Y31 := Aside0.mk (Y30.out.rd hr1 hm1); clear hr1 hm1)
            | (go_at_call 66; (with_reducible refine (HTN.out _ q 63 Y29.out.rs N63.out).mono ?_); rintro e w9 ⟨rfl, hr1, hm1⟩; have Y30 := Aside0.mk (Y29.out.rd hr1 hm1); clear hr1 hm1)
            | (go_at_call 66; (with_reducible refine (HTN.out _ q 43 Y28.out.rs N43.out).mono ?_); rintro e w9 ⟨rfl, hr1, hm1⟩; have Y29 := Aside0.mk (Y28.out.rd hr1 hm1); clear hr1 hm1)
            | (go_at_call 66; (with_reducible refine (HTN.out _ q 42 Y27.out.rs N42.out).mono ?_); rintro e w9 ⟨rfl, hr1, hm1⟩; have Y28 := Aside0.mk (Y27.out.rd hr1 hm1); clear hr1 hm1)
            | ((with_reducible refine gate_storeT (t := 67) (p := 4) rfl ?_); refine store_pt rfl 4 _ rfl _ rfl PV.nil (repV 0 (-1) false nb) rfl (Y26.out.at_ 2 _ _ _ rfl).2 ?_; intro w9 hc hm; have Y27 := Aside0.mk (Y26.out.set 2 rfl hc hm); clear hc hm)
            | ((with_reducible refine gate_alloc (t := 67) (d := 4) rfl rfl ?_); refine alloc_pt rfl rfl rfl ?_; intro r4 w9 hg1 hc1 hb1; have Y26 := Aside0.mk (Y25.out.push hg1 hc1 hb1); clear hg1 hc1 hb1)
            | ((with_reducible refine gate_build (t := 67) rfl ?_); refine build_r rfl _ rfl nb rfl ?_)
            | ((with_reducible refine gate_row (t := 65) (n := 1) rfl ?_); refine row_pt rfl _ rfl v rfl ?_; intro nb w9 hn1 hw1; have Y25 := Aside0.mk (HQ.out.row2 (HQ.out.tr 0 _ _ rfl) hn1 hw1 0 (-1) false); clear hn1 hw1)
            | ((with_reducible refine gate_load (t := 67) (p := 3) rfl ?_); refine load_pt rfl 3 rfl _ rfl v (HQ.out.at_ 1 _ _ _ rfl).2 ?_))
          exact ⟨rfl, TPost.bad HB1.out.symm Y32.out⟩
        | ok x q2 =>
          obtain ⟨le, mo⟩ := x
          have hco := countR_ok HQ1.out hE2
          rw [hE2] at hb
          simp only at hb
          have HE2 := Aside0.mk hE2
          clear hE2
          have HB1 := Aside0.mk hb
          clear hb
          go_wp2_with (first
            | ((with_reducible refine gate_storeT (t := 67) (p := 3) rfl ?_); refine store_pt rfl 3 _ rfl _ rfl v (repV le mo true nb) rfl (Y40.out.at_ 1 _ _ _ rfl).2 ?_; intro w9 hc hm; have Y41 := Aside0.mk (Y40.out.set 1 rfl hc hm); clear hc hm)
            | ((with_reducible refine gate_load (t := 67) (p := 4) rfl ?_); refine load_pt rfl 4 rfl _ rfl (repV le mo true nb) (Y40.out.at_ 2 _ _ _ rfl).2 ?_)
            | (go_at_call 74; (with_reducible refine (HCN.out _ _ q1 r4 (repV 0 (-1) false nb) _ _ Y39.out rfl HQ1.out).mono ?_); intro e w9 hc; obtain ⟨rfl, hcs⟩ := hc.ok_elim HE2.out; have Y40 := Aside0.mk (Y39.out.cnt 2 (v := repV 0 (-1) false nb) (v' := repV le mo true nb) rfl hcs); clear hcs hc)
            | (go_at_call 66; (with_reducible refine (HTK1.out _ Y38.out.rs).mono ?_); rintro e w9 ⟨rfl, hr1, hm1⟩; have Y39 := Aside0.mk (Y38.out.rd hr1 hm1); clear hr1 hm1)
            | (go_at_call 66; (with_reducible refine (HTN.out _ q 63 Y37.out.rs N63.out).mono ?_); rintro e w9 ⟨rfl, hr1, hm1⟩; have Y38 := Aside0.mk (Y37.out.rd hr1 hm1); clear hr1 hm1)
            | (go_at_call 66; (with_reducible refine (HTN.out _ q 43 Y36.out.rs N43.out).mono ?_); rintro e w9 ⟨rfl, hr1, hm1⟩; have Y37 := Aside0.mk (Y36.out.rd hr1 hm1); clear hr1 hm1)
            | (go_at_call 66; (with_reducible refine (HTN.out _ q 42 Y35.out.rs N42.out).mono ?_); rintro e w9 ⟨rfl, hr1, hm1⟩; have Y36 := Aside0.mk (Y35.out.rd hr1 hm1); clear hr1 hm1)
            | ((with_reducible refine gate_storeT (t := 67) (p := 4) rfl ?_); refine store_pt rfl 4 _ rfl _ rfl PV.nil (repV 0 (-1) false nb) rfl (Y34.out.at_ 2 _ _ _ rfl).2 ?_; intro w9 hc hm; have Y35 := Aside0.mk (Y34.out.set 2 rfl hc hm); clear hc hm)
            | ((with_reducible refine gate_alloc (t := 67) (d := 4) rfl rfl ?_); refine alloc_pt rfl rfl rfl ?_; intro r4 w9 hg1 hc1 hb1; have Y34 := Aside0.mk (Y33.out.push hg1 hc1 hb1); clear hg1 hc1 hb1)
            | ((with_reducible refine gate_build (t := 67) rfl ?_); refine build_r rfl _ rfl nb rfl ?_)
            | ((with_reducible refine gate_row (t := 65) (n := 1) rfl ?_); refine row_pt rfl _ rfl v rfl ?_; intro nb w9 hn1 hw1; have Y33 := Aside0.mk (HQ.out.row2 (HQ.out.tr 0 _ _ rfl) hn1 hw1 0 (-1) false); clear hn1 hw1)
            | ((with_reducible refine gate_load (t := 67) (p := 3) rfl ?_); refine load_pt rfl 3 rfl _ rfl v (HQ.out.at_ 1 _ _ _ rfl).2 ?_))
          go_roundg k
          case measure => omega
          case rel => exact ⟨q2, repT le mo true t, repV le mo true nb, by omega, by omega, HB1, ⟨(Y41.out.more ((Y41.out.tr 1 _ _ rfl).re 5 C4.nil le mo true)).take 2⟩⟩
      rw [if_neg c123] at hb
      have N123 := Aside0.mk (Bool.eq_false_iff.2 c123)
      clear c123
      have HB1 := Aside0.mk hb
      clear hb
      go_wp2_with (first
        | ((with_reducible refine gate_storeT (t := 67) (p := 2) rfl ?_); refine store_pt rfl 2 _ rfl _ rfl PV.nil v rfl (Y48.out.at_ 0 _ _ _ rfl).2 ?_; intro w9 hc hm; have Y49 := Aside0.mk (Y48.out.set 0 rfl hc hm); clear hc hm)
        | ((with_reducible refine gate_load (t := 67) (p := 3) rfl ?_); refine load_pt rfl 3 rfl _ rfl v (Y48.out.at_ 1 _ _ _ rfl).2 ?_)
        | (go_at_call 66; (with_reducible refine (HTN.out _ q 123 Y47.out.rs N123.out).mono ?_); rintro e w9 ⟨rfl, hr1, hm1⟩; have Y48 := Aside0.mk (Y47.out.rd hr1 hm1); clear hr1 hm1)
        | (go_at_call 66; (with_reducible refine (HTN.out _ q 63 Y46.out.rs N63.out).mono ?_); rintro e w9 ⟨rfl, hr1, hm1⟩; have Y47 := Aside0.mk (Y46.out.rd hr1 hm1); clear hr1 hm1)
        | (go_at_call 66; (with_reducible refine (HTN.out _ q 43 Y45.out.rs N43.out).mono ?_); rintro e w9 ⟨rfl, hr1, hm1⟩; have Y46 := Aside0.mk (Y45.out.rd hr1 hm1); clear hr1 hm1)
        | (go_at_call 66; (with_reducible refine (HTN.out _ q 42 Y44.out.rs N42.out).mono ?_); rintro e w9 ⟨rfl, hr1, hm1⟩; have Y45 := Aside0.mk (Y44.out.rd hr1 hm1); clear hr1 hm1)
        | ((with_reducible refine gate_storeT (t := 67) (p := 4) rfl ?_); refine store_pt rfl 4 _ rfl _ rfl PV.nil (repV 0 (-1) false nb) rfl (Y43.out.at_ 2 _ _ _ rfl).2 ?_; intro w9 hc hm; have Y44 := Aside0.mk (Y43.out.set 2 rfl hc hm); clear hc hm)
        | ((with_reducible refine gate_alloc (t := 67) (d := 4) rfl rfl ?_); refine alloc_pt rfl rfl rfl ?_; intro r4 w9 hg1 hc1 hb1; have Y43 := Aside0.mk (Y42.out.push hg1 hc1 hb1); clear hg1 hc1 hb1)
        | ((with_reducible refine gate_build (t := 67) rfl ?_); refine build_r rfl _ rfl nb rfl ?_)
        | ((with_reducible refine gate_row (t := 65) (n := 1) rfl ?_); refine row_pt rfl _ rfl v rfl ?_; intro nb w9 hn1 hw1; have Y42 := Aside0.mk (HQ.out.row2 (HQ.out.tr 0 _ _ rfl) hn1 hw1 0 (-1) false); clear hn1 hw1)
        | ((with_reducible refine gate_load (t := 67) (p := 3) rfl ?_); refine load_pt rfl 3 rfl _ rfl v (HQ.out.at_ 1 _ _ _ rfl).2 ?_))
      (try simp only [Exit.inBlock, Exit.then])
      refine bodyPost_ret (results_pt rfl _ _ rfl (v := v) (Y49.out.at_ 0 _ _ _ rfl).2) rfl ?_
      exact Y49.out.post 0 rfl HB1.out.symm

end Go.Proofs.Ytclgnefeankbgaa.M
namespace Go.Proofs.Ytclgnefeankbgaa.M
open Go Go.RowKit Go.Proofs.YtclgnefeankbgaaW.PrintWords Go.Proofs.YtclgnefeankbgaaW.PrintLast Go.Proofs.YtclgnefeankbgaaW.PrintMore Hand
attribute [local go_sem] Oper.semAt_some max2_int min2_int max_two min_two max_three min_three max_four min_four
set_option linter.unusedVariables false
set_option linter.unusedSimpArgs false
/-- The reader, variables, and a row that grows: v's slice. -/
structure CT (g : Nat) (w W : World) (s : ByteArray) (p : Nat) (fold : Bool) (L : List (Nat × TypeId × Array Value)) (f : Pt) (v : PV) : Prop where
  q : QT g w W s p fold L []
  row : ∃ ws, RowP W (fun k => w.heap.size ≤ k ∧ k ∉ L.map Prod.fst) v ws ∧ FV W (fun k => (w.heap.size ≤ k ∧ k ∉ L.map Prod.fst) ∧ v.b ≠ some k) f ws
theorem slOf_own {b : Option Nat} {n cap : Nat} : (slOf b n cap).ownBlock = b := by unfold slOf; cases b <;> rfl
theorem own_sl {W : World} {base n : Nat} {x : Value} {xs : List Value} (h : W.ownsRow base 67 9 x n xs) : ∃ b cap, x = slOf b n cap := by
  rcases h.2 with ⟨hv, h0⟩ | ⟨g, cap, cur, hv, _⟩
  · exact ⟨none, 0, by rw [hv, h0]; rfl⟩
  · exact ⟨some g, cap, hv⟩
section
variable {g p q : Nat} {w W W' : World} {s : ByteArray} {fold : Bool} {L : List (Nat × TypeId × Array Value)} {f t : Pt} {v v1 : PV}
theorem QT.same (h : QT g w W s p fold L []) (hm : ∀ k, k < W.heap.size → (k ∈ L.map Prod.fst ∨ k < w.heap.size) → W'.heap[k]? = W.heap[k]?) (h1 : W'.os = W.os) (h2 : W'.tape = W.tape) (h3 : W'.output = W.output) (h4 : W.heap.size ≤ W'.heap.size) : QT g w W' s p fold L [] := ⟨h.lg, (hm g (blk_lt h.rs) (.inr h.lg)).trans h.rs, ⟨h1.trans h.mv.os, h2.trans h.mv.tape, h3.trans h.mv.output, Nat.le_trans h.mv.size h4, fun k hk hg => (hm k (Nat.lt_of_lt_of_le hk h.mv.size) (.inr hk)).trans (h.mv.block k hk hg)⟩, fun i b T c hi => ⟨(h.at_ i b T c hi).1, (hm b (blk_lt (h.at_ i b T c hi).2) (.inl (List.mem_map.2 ⟨_, List.mem_of_getElem? hi, rfl⟩))).trans (h.at_ i b T c hi).2⟩, h.nd, fun i t vs hi => by simp at hi⟩
theorem CT.nil (h : QT g w W s p fold L []) (hv : v.b = none) (hn : v.n = 0) (hc : v.cap = 0) : CT g w W s p fold L .nil v := ⟨h, [], ⟨by rw [hn]; rfl, ⟨by rw [hn]; rfl, .inl ⟨by unfold PV.sl; rw [hv, hn, hc]; rfl, hn⟩⟩, fun k hk => by rw [hv] at hk; cases hk⟩, rfl⟩
theorem CT.call (h : CT g w W s p fold L f v) (hb : Below W.heap.size W W') : CT g w W' s p fold L f v := by
  obtain ⟨hq, ws, h1, h2⟩ := h
  exact ⟨hq.call hb, ws, h1.move fun k _ hk => hb.block k hk, h2.move fun k _ hk => hb.block k hk⟩
theorem CT.rd (h : CT g w W s p fold L f v) (hr : RS W' g s q fold) (hm : Mv g W W') : CT g w W' s q fold L f v := by
  obtain ⟨hq, ws, h1, h2⟩ := h
  have hg := hq.lg
  exact ⟨hq.rd hr hm, ws, h1.move fun k hx hk => hm.block k hk (by have := hx.1; omega), h2.move fun k hx hk => hm.block k hk (by have := hx.1.1; omega)⟩
theorem CT.set (h : CT g w W s p fold L f v) (i : Nat) {b : Nat} {T : TypeId} {c c' : Array Value} (hi : L[i]? = some (b, T, c)) (hc : VAt W' b T c') (hm : Mv b W W') : CT g w W' s p fold (L.set i (b, T, c')) f v := by
  obtain ⟨hq, ws, h1, h2⟩ := h
  have hlt := (List.getElem?_eq_some_iff.1 hi).1
  have hmem : b ∈ L.map Prod.fst := List.mem_map.2 ⟨_, List.mem_of_getElem? hi, rfl⟩
  have e : (L.set i (b, T, c')).map Prod.fst = L.map Prod.fst := by
    apply List.ext_getElem?
    intro j
    rw [List.getElem?_map, List.getElem?_map, List.getElem?_set]
    by_cases e : i = j
    · subst e
      rw [if_pos rfl, if_pos hlt, hi]
      rfl
    · rw [if_neg e]
  refine ⟨hq.set i hi hc hm, ws, ?_, ?_⟩
  · rw [e]; exact h1.move fun k hx hk => hm.block k hk (fun e2 => hx.2 (e2 ▸ hmem))
  · rw [e]; exact h2.move fun k hx hk => hm.block k hk (fun e2 => hx.1.2 (e2 ▸ hmem))
theorem CT.swap (h : CT g w W s p fold L f v) {v2 : PV} (h1 : v2.b = v.b) (h2 : v2.n = v.n) (h3 : v2.cap = v.cap) : CT g w W s p fold L f v2 := by
  obtain ⟨hq, ws, a1, a2⟩ := h
  refine ⟨hq, ws, ⟨by rw [h2]; exact a1.1, ?_, fun k hk => a1.2.2 k (by rw [← h1]; exact hk)⟩, by rw [h1]; exact a2⟩
  unfold PV.sl
  rw [h1, h2, h3]
  exact a1.2.1
/-- The tree of what has been read. -/
theorem CT.tree (h : CT g w W s p fold L f v) {k : Int} {c : C4} {le mo : Int} {nu : Bool} (hv : v.k = k ∧ v.c = c ∧ v.le = le ∧ v.mo = mo ∧ v.nu = nu) : QT g w W s p fold L [(.cons k c le mo nu f .nil, [v])] := by
  obtain ⟨hq, ws, a1, a2⟩ := h
  exact hq.more ⟨v, [], rfl, hv.1, hv.2.1, hv.2.2.1, hv.2.2.2.1, hv.2.2.2.2, ⟨ws, a1, a2.mono fun k hk _ => hk.1⟩, rfl⟩
/-- A part is read, its row of one laid: what an append asks and gives. -/
theorem CT.join {W1 W2 : World} (h : CT g w W s p fold L f v) (hr : RS W1 g s q fold) (hm : Mv g W W1) (ht : FV W1 (fun b => W.heap.size ≤ b) t [v1]) (hW : W2 = W1.alloc (.cells v1.cells 67)) :
    ∃ xs, W2.ownsRow 0 67 9 v.sl v.n xs ∧ (∀ j u, v1.cells.toList[j]? = some u → W2.cell? ((⟨W1.heap.size, 0, none⟩ : Addr).add j) = some u) ∧
      ∀ x w', w'.ownsRow 0 67 9 x (v.n + 1) (xs ++ v1.cells.toList) → W2.grownBy w' v.sl.ownBlock → (x.ownBlock = v.sl.ownBlock ∨ x.ownBlock = some W2.heap.size) → ∃ b' cap', x = slOf b' (v.n + 1) cap' ∧ CT g w w' s q fold L (f.app t) { v with b := b', n := v.n + 1, cap := cap' } := by
  have hb2 : Below W1.heap.size W1 W2 := by rw [hW]; exact below_alloc (Below.refl _ _) _
  have hnew : W2.heap[W1.heap.size]? = some (.cells v1.cells 67 (0, 0)) := by rw [hW]; exact blk_new W1 _
  have hsz2 := hb2.size
  have hw1 := hm.size
  obtain ⟨hq0, ws, a1, a2⟩ := h
  have hq2 := (hq0.rd hr hm).call hb2
  have hlL := fun b hb => hq0.lt (b := b) hb
  have hlt := fun g hg => a1.lt (g := g) hg
  have hg := hq0.lg
  have a1' := (a1.move (W' := W1) fun k hx hk => hm.block k hk (by have := hx.1; omega)).move (W' := W2) fun k hx hk => hb2.block k hk
  have a2' := ((a2.mono (Y := fun k => ((w.heap.size ≤ k ∧ k ∉ L.map Prod.fst) ∧ v.b ≠ some k) ∧ k < W.heap.size) fun k hx hk => ⟨hx, hk⟩).move (W' := W1) fun k hx hk => hm.block k hk (by have := hx.1.1.1; omega)).move (W' := W2) fun k hx hk => hb2.block k hk
  have t2 := (ht.mono (Y := fun k => W.heap.size ≤ k ∧ k < W1.heap.size) fun k hx hk => ⟨hx, hk⟩).move (W' := W2) fun k hx hk => hb2.block k hk
  refine ⟨flatP ws, a1'.2.1, fun j u hj => ?_, fun x w' hown hgr hat => ?_⟩
  · have h0 := blk_cell hnew j
    rw [Array.getElem?_toList] at hj
    have e : ((⟨W1.heap.size, 0, none⟩ : Addr).add j) = ⟨W1.heap.size, j, none⟩ := by unfold Addr.add; split <;> simp_all
    rw [e, h0]
    exact hj
  · obtain ⟨b', cap', rfl⟩ := own_sl hown
    rw [slOf_own] at hat
    have hvo : v.sl.ownBlock = v.b := slOf_own
    rw [hvo] at hat hgr
    have hgs := hgr.size
    refine ⟨b', cap', rfl, ?_, ws ++ [v1], ⟨by rw [List.length_append, ← a1'.1]; rfl, ?_, fun k hk => ?_⟩, FV.app ?_ ?_⟩
    · refine hq2.same (fun k hk hor => hgr.block k hk (fun e => ?_)) hgr.os hgr.tape hgr.output hgr.size
      have hx := a1.2.2 k e.symm
      rcases hor with hor | hor
      · exact hx.2 hor
      · have := hx.1; omega
    · have e : flatP (ws ++ [v1]) = flatP ws ++ v1.cells.toList := by unfold flatP; rw [List.flatMap_append]; simp
      rw [e]
      exact hown
    · have hk : b' = some k := hk
      rcases hat with hat | hat
      · exact a1.2.2 k (hat ▸ hk)
      · rw [hk] at hat
        cases hat
        exact ⟨by have := hq2.mv.size; omega, fun hmem => by have := hlL _ hmem; omega⟩
    · refine (a2'.move (W' := w') fun k hx hk => hgr.block k hk (fun e => hx.1.2 e.symm)).mono fun k hx hk => ⟨hx.1.1, fun e => ?_⟩
      have e : b' = some k := e
      rcases hat with hat | hat
      · exact hx.1.2 (by rw [← hat]; exact e)
      · rw [e] at hat
        cases hat
        have := hx.2
        omega
    · refine (t2.move (W' := w') fun k hx hk => hgr.block k hk (fun e => ?_)).mono fun k hx hk => ⟨⟨by have := hx.1; have := hq0.mv.size; omega, fun hmem => by have := hlL _ hmem; have := hx.1; omega⟩, fun e => ?_⟩
      · have := hlt k e.symm
        have := hx.1
        omega
      · have e : b' = some k := e
        rcases hat with hat | hat
        · have := hlt k (by rw [← hat]; exact e)
          have := hx.1
          omega
        · rw [e] at hat
          cases hat
          have := hx.2
          omega
end
/-- The append of one part. -/
theorem step_append_pt {o : Oper} {a : Act} {w : World} {K : Act → World → Prop} {Q : Exit → Act → World → Prop} (s x : Operand)
    (ho : o.op = .call { callee := .builtin .append, args := #[s, x], argTypes := #[65, 65] }) (v : Value) (n : Nat) (xs : List Value) (hs : a.eval s = v) (hown : w.ownsRow 0 67 9 v n xs)
    (ad : Addr) (news : List Value) (hx : a.eval x = .slice (some ad) 1 1) (hl : news.length = 9) (hnews : ∀ j u, news[j]? = some u → w.cell? (ad.add j) = some u) (h1 : ∀ u ∈ news, u.oneCell' = true) (hn : n ≤ 200)
    (h : ∀ v' w', w'.ownsRow 0 67 9 v' (n + 1) (xs ++ news) → w.grownBy w' v.ownBlock → (v'.ownBlock = v.ownBlock ∨ v'.ownBlock = some w.heap.size) → K (a.put o.dst v') w') : Oper.wp Try.prog o a w K Q := by
  obtain ⟨i, hi, hz, hsz, hby⟩ := pt_parts
  obtain ⟨v', w', hr, h2, h3, h4, h5⟩ := run_append_own_at (P := Try.prog) w 0 65 o.type 67 i (.agg PV.nil.cells) 9 88 Try.underlying65 hi hz hsz hby rfl (by decide) v n xs hown ad 1 1 news hl hnews h1 (by unfold maxLen; omega) (by omega) (Nat.zero_le _)
  unfold Oper.wp
  simp [execOp, ho, resolve, invoke, builtin, hs, hx, hr, Result.andThen]
  exact h v' w' h2 h3 h5
theorem one9 (v : PV) : ∀ u ∈ v.cells.toList, u.oneCell' = true := by
  intro u hu
  simp [PV.cells, PV.sl, slOf] at hu
  rcases hu with rfl | rfl | rfl | rfl | rfl | rfl | rfl | rfl | rfl <;> rfl
theorem agg9 (v : PV) : Value.agg v.cells = .agg #[.int .i64 v.k, .int .u64 v.c.a, .int .u64 v.c.b, .int .u64 v.c.c, .int .u64 v.c.d, .int .i64 v.le, .int .i64 v.mo, .bool v.nu, .slice (v.b.map fun g => ⟨g, 0, none⟩) v.n v.cap] := rfl
end Go.Proofs.Ytclgnefeankbgaa.M
