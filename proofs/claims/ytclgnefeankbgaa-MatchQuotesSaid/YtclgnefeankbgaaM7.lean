/- The reader's escapes. Conditions: as each theorem says. -/
import Derived.Test.YtclgnefeankbgaaM5
import Derived.BigQuiet
namespace Go.Proofs.Ytclgnefeankbgaa.M
open Go Go.RowKit Go.Proofs.YtclgnefeankbgaaW.PrintWords Go.Proofs.YtclgnefeankbgaaW.PrintLast Go.Proofs.YtclgnefeankbgaaW.PrintMore Hand
attribute [local go_sem] Oper.semAt_some max2_int min2_int max_two min_two max_three min_three max_four min_four
set_option linter.unusedVariables false
set_option linter.unusedSimpArgs false
def hexV (d d2 : Int) : Int := Go.bits .or .u8 (IntKind.u8.wrap (d * 16)) d2
def notEsc (b : Int) : Prop := b < 32 ∨ 126 < b ∨ (48 ≤ b ∧ b ≤ 57) ∨ (97 ≤ low8 b ∧ low8 b ≤ 122)
instance (b : Int) : Decidable (notEsc b) := by unfold notEsc; exact inferInstance
/-- An escape, from its backslash on. -/
def escR (s : ByteArray) (p : Nat) : Rs (C4 × Int × Bool) :=
  match severalP (seeP s (p + 1)) with
  | some c => .ok (c, 0, false) (p + 1 + 1)
  | none =>
    if takeP s (p + 1) 110 = true then .ok (onlyC 10, 10, true) (p + 1 + 1)
    else if takeP s (p + 1) 116 = true then .ok (onlyC 9, 9, true) (p + 1 + 1)
    else if takeP s (p + 1) 120 = true then
      (if digP (seeP s (p + 1 + 1)) < 0 then .bad (p + 1 + 1)
       else if digP (seeP s (p + 1 + 1 + 1)) < 0 then .bad (p + 1 + 1 + 1)
       else .ok (onlyC (hexV (digP (seeP s (p + 1 + 1))) (digP (seeP s (p + 1 + 1 + 1)))), hexV (digP (seeP s (p + 1 + 1))) (digP (seeP s (p + 1 + 1 + 1))), true) (p + 1 + 1 + 1 + 1))
    else if notEsc (seeP s (p + 1)) then .bad (p + 1)
    else .ok (onlyC (seeP s (p + 1)), seeP s (p + 1), true) (p + 1 + 1)
def fEsc (x : C4 × Int × Bool) : Value := .tuple #[.agg x.1.cells, .int .u8 x.2.1, .bool x.2.2]
theorem takeP_lt {s : ByteArray} {p : Nat} {b : Int} (h : takeP s p b = true) : p < s.size := (of_decide_eq_true h).1
theorem takeP_see {s : ByteArray} {p : Nat} {b : Int} (h : takeP s p b = true) : seeP s p = b := by
  have := of_decide_eq_true h
  unfold seeP
  rw [if_pos this.1]
  exact this.2
theorem several_lt {s : ByteArray} {p : Nat} {c : C4} (h : severalP (seeP s p) = some c) : p < s.size := by
  refine seeP_lt (fun e => ?_)
  rw [e] at h
  have : severalP 0 = none := by decide +kernel
  rw [this] at h
  cases h
theorem hexV_range {d d2 : Int} (h0 : 0 ≤ d) (h1 : d ≤ 15) (h2 : 0 ≤ d2) (h3 : d2 ≤ 15) : 0 ≤ hexV d d2 ∧ hexV d d2 ≤ 255 := by
  have := (by decide +kernel : ∀ n m : Fin 16, 0 ≤ hexV ((n.val : Nat) : Int) ((m.val : Nat) : Int) ∧ hexV ((n.val : Nat) : Int) ((m.val : Nat) : Int) ≤ 255) ⟨d.toNat, by omega⟩ ⟨d2.toNat, by omega⟩
  simpa [Int.toNat_of_nonneg h0, Int.toNat_of_nonneg h2] using this
set_option maxHeartbeats 8000000 in
set_option maxRecDepth 100000 in
theorem escape.calls (g p : Nat) (s : ByteArray) (fold : Bool) (W : World) (h : RS W g s p fold) (hs : s.size ≤ 200) (hp : p < s.size) :
    Calls Try.prog 85 #[.pointer (some ⟨g, 0, none⟩)] W fun e w' => RPost g s fold W fEsc (escR s p) e w' := by
  have HQ := Aside0.mk (QL.nil h)
  have HC1 := HQ.out.c1
  have HF1 := HQ.out.f1
  obtain ⟨r, hr⟩ : ∃ r, escR s p = r := ⟨_, rfl⟩
  rw [hr]
  unfold escR at hr
  obtain ⟨q, hq⟩ : ∃ q, p + 1 = q := ⟨_, rfl⟩
  obtain ⟨q2, hq2⟩ : ∃ q2, q + 1 = q2 := ⟨_, rfl⟩
  obtain ⟨q3, hq3⟩ : ∃ q3, q2 + 1 = q3 := ⟨_, rfl⟩
  rw [hq] at hr
  rw [hq2] at hr
  rw [hq3] at hr
  have w1 : IntKind.i64.wrap ((p : Int) + 1) = (q : Int) := by rw [IntKind.wrap_i64]; omega
  have HSR := Aside0.mk (seeP_range s q)
  have HLT : Aside0 (severalP (seeP s q) = none ∨ q < s.size) := ⟨by
    cases e : severalP (seeP s q) with
    | none => exact .inl rfl
    | some c => exact .inr (several_lt e)⟩
  obtain ⟨b, hb⟩ : ∃ b, seeP s q = b := ⟨_, rfl⟩
  rw [hb] at hr HSR HLT
  have HB := Aside0.mk hb
  have HSV : Aside0 (∀ W', Calls Try.prog 101 #[.int .u8 b] W' fun e w' => ∃ c, e = .returned (.tuple #[.agg c.cells, .bool (severalP b).isSome]) ∧ (∀ x, severalP b = some x → c = x) ∧ Below W'.heap.size W' w') := ⟨fun W' => several.calls b W' HSR.out.1 HSR.out.2⟩
  have HTK : Aside0 (∀ W' b' t, RS W' g s q fold → takeP s q b' = t → Calls Try.prog 66 #[.pointer (some ⟨g, 0, none⟩), .int .u8 b'] W' fun e w' => e = .returned (.bool t) ∧ RS w' g s (if t = true then q2 else q) fold ∧ Mv g W' w') := ⟨fun W' b' t h1 h2 => by subst h2; have := take.calls g q s fold b' W' h1 hs; rw [hq2] at this; exact this⟩
  clear h hb
  obtain ⟨m, hm⟩ : ∃ m, severalP b = m := ⟨_, rfl⟩
  rw [hm] at hr HSV HLT
  have HM := Aside0.mk hm
  cases m with
  | some c =>
    have HR := Aside0.mk hr
    have hlt : q < s.size := HLT.out.resolve_left (by simp)
    have w2 : IntKind.i64.wrap ((q : Int) + 1) = (q2 : Int) := by rw [IntKind.wrap_i64]; omega
    clear hr hm hq hq2 hq3
    go_enter Try.func85, Try.ntmps85
    go_wp2_with (first
      | ((with_reducible refine gate_storeT (t := 64) (p := 2) rfl ?_); refine store_cl rfl 2 _ rfl _ rfl _ c3 rfl ((Q4.out.at_p q2).at_ 0 _ _ rfl).2 ?_; intro w6 hc hm; have Q6 := Aside0.mk ((Q4.out.at_p q2).set 0 rfl hc hm); clear hc hm)
      | ((with_reducible refine gate_load (t := 64) (p := 6) rfl ?_); refine load_cl rfl 6 rfl _ rfl _ ((Q4.out.at_p q2).at_ 1 _ _ rfl).2 ?_)
      | ((with_reducible refine gate_storeT (t := 64) (p := 6) rfl ?_); refine store_cl rfl 6 _ rfl _ rfl _ c3 rfl (Q3.out.at_ 1 _ _ rfl).2 ?_; intro w5 hc hm; have Q4 := Aside0.mk (Q3.out.set 1 rfl hc hm); have k4 := (Q3.out.set 1 rfl hc hm).c1; have f4 := (Q3.out.set 1 rfl hc hm).f1; clear hc hm)
      | ((with_reducible refine gate_alloc (t := 64) (d := 6) rfl rfl ?_); refine alloc_cl rfl rfl rfl ?_; intro r6 w4 hg1 hc1 hb1; have Q3 := Aside0.mk (Q2.out.push hg1 hc1 hb1); clear hg1 hc1 hb1)
      | (go_at_call 101; (with_reducible refine (HSV.out _).mono ?_); rintro e w3 ⟨c3, rfl, hx, hb⟩; have Q2 := Aside0.mk (Q1.out.call hb); have HX3 := Aside0.mk hx; clear hx hb)
      | (go_at_call 79; (with_reducible refine (see.calls g q s fold _ (Q0.out.at_p q).rs).mono ?_); rintro e w2 ⟨rfl, hb⟩; have Q1 := Aside0.mk ((Q0.out.at_p q).call hb); clear hb; have hv2 := HB.out; rw [hv2]; clear hv2)
      | ((with_reducible refine gate_alloc (t := 64) (d := 2) rfl rfl ?_); refine alloc_cl rfl rfl rfl ?_; intro r2 w1 hg1 hc1 hb1; have Q0 := Aside0.mk (HQ.out.push hg1 hc1 hb1); have k1 := (HQ.out.push hg1 hc1 hb1).c1; have f1 := (HQ.out.push hg1 hc1 hb1).f1; clear hg1 hc1 hb1))
    (try simp only [Exit.inBlock, Exit.then])
    refine bodyPost_ret (results_cl3 rfl _ _ rfl rfl rfl (Q6.out.at_ 0 _ _ rfl).2) rfl ?_
    rw [HX3.out c rfl]
    exact RPost.good (f := fEsc) HR.out.symm Q6.out.rs Q6.out.mv
  | none =>
    clear hm
    by_cases t1 : takeP s q 110 = true
    · have E1 := Aside0.mk t1
      rw [if_pos t1] at hr
      clear t1
      obtain ⟨o1, ho1⟩ : ∃ o, onlyC 10 = o := ⟨_, rfl⟩
      rw [ho1] at hr
      have HON : Aside0 (∀ W', Calls Try.prog 81 #[.int .u8 10] W' fun e w' => e = .returned (.agg o1.cells) ∧ Below W'.heap.size W' w') := ⟨fun W' => by rw [← ho1]; exact only.calls 10 W' (by omega) (by omega)⟩
      have HR := Aside0.mk hr
      clear hr ho1
      clear hq hq2 hq3
      go_enter Try.func85, Try.ntmps85
      go_wp2_with (first
        | ((with_reducible refine gate_storeT (t := 64) (p := 2) rfl ?_); refine store_cl rfl 2 _ rfl _ rfl _ o1 rfl (O1.out.at_ 0 _ _ rfl).2 ?_; intro u2 hc hm; have O2 := Aside0.mk (O1.out.set 0 rfl hc hm); clear hc hm)
        | (go_at_call 81; (with_reducible refine (HON.out _).mono ?_); rintro e u1 ⟨rfl, hb⟩; have O1 := Aside0.mk (T1.out.call hb); clear hb)
        | (go_at_call 66; (with_reducible refine (HTK.out _ 110 true Q4.out.rs E1.out).mono ?_); rintro e v1 ⟨rfl, hr1, hm1⟩; have T1 := Aside0.mk (Q4.out.rd hr1 hm1); have k11 := (Q4.out.rd hr1 hm1).c1; have f11 := (Q4.out.rd hr1 hm1).f1; clear hr1 hm1)
        | ((with_reducible refine gate_storeT (t := 64) (p := 6) rfl ?_); refine store_cl rfl 6 _ rfl _ rfl _ c3 rfl (Q3.out.at_ 1 _ _ rfl).2 ?_; intro w5 hc hm; have Q4 := Aside0.mk (Q3.out.set 1 rfl hc hm); have k4 := (Q3.out.set 1 rfl hc hm).c1; have f4 := (Q3.out.set 1 rfl hc hm).f1; clear hc hm)
        | ((with_reducible refine gate_alloc (t := 64) (d := 6) rfl rfl ?_); refine alloc_cl rfl rfl rfl ?_; intro r6 w4 hg1 hc1 hb1; have Q3 := Aside0.mk (Q2.out.push hg1 hc1 hb1); clear hg1 hc1 hb1)
        | (go_at_call 101; (with_reducible refine (HSV.out _).mono ?_); rintro e w3 ⟨c3, rfl, hx, hb⟩; have Q2 := Aside0.mk (Q1.out.call hb); have HX3 := Aside0.mk hx; clear hx hb)
        | (go_at_call 79; (with_reducible refine (see.calls g q s fold _ (Q0.out.at_p q).rs).mono ?_); rintro e w2 ⟨rfl, hb⟩; have Q1 := Aside0.mk ((Q0.out.at_p q).call hb); clear hb; have hv2 := HB.out; rw [hv2]; clear hv2)
        | ((with_reducible refine gate_alloc (t := 64) (d := 2) rfl rfl ?_); refine alloc_cl rfl rfl rfl ?_; intro r2 w1 hg1 hc1 hb1; have Q0 := Aside0.mk (HQ.out.push hg1 hc1 hb1); have k1 := (HQ.out.push hg1 hc1 hb1).c1; have f1 := (HQ.out.push hg1 hc1 hb1).f1; clear hg1 hc1 hb1))
      (try simp only [Exit.inBlock, Exit.then])
      refine bodyPost_ret (results_cl3 rfl _ _ rfl rfl rfl (O2.out.at_ 0 _ _ rfl).2) rfl ?_
      exact RPost.good (f := fEsc) HR.out.symm O2.out.rs O2.out.mv
    have E1 := Aside0.mk (Bool.eq_false_iff.2 t1)
    rw [if_neg t1] at hr
    clear t1
    by_cases t2 : takeP s q 116 = true
    · have E2 := Aside0.mk t2
      rw [if_pos t2] at hr
      clear t2
      obtain ⟨o1, ho1⟩ : ∃ o, onlyC 9 = o := ⟨_, rfl⟩
      rw [ho1] at hr
      have HON : Aside0 (∀ W', Calls Try.prog 81 #[.int .u8 9] W' fun e w' => e = .returned (.agg o1.cells) ∧ Below W'.heap.size W' w') := ⟨fun W' => by rw [← ho1]; exact only.calls 9 W' (by omega) (by omega)⟩
      have HR := Aside0.mk hr
      clear hr ho1
      clear hq hq2 hq3
      go_enter Try.func85, Try.ntmps85
      go_wp2_with (first
        | ((with_reducible refine gate_storeT (t := 64) (p := 2) rfl ?_); refine store_cl rfl 2 _ rfl _ rfl _ o1 rfl (O1.out.at_ 0 _ _ rfl).2 ?_; intro u2 hc hm; have O2 := Aside0.mk (O1.out.set 0 rfl hc hm); clear hc hm)
        | (go_at_call 81; (with_reducible refine (HON.out _).mono ?_); rintro e u1 ⟨rfl, hb⟩; have O1 := Aside0.mk (T2.out.call hb); clear hb)
        | (go_at_call 66; (with_reducible refine (HTK.out _ 116 true T1.out.rs E2.out).mono ?_); rintro e v2 ⟨rfl, hr1, hm1⟩; have T2 := Aside0.mk (T1.out.rd hr1 hm1); have k12 := (T1.out.rd hr1 hm1).c1; have f12 := (T1.out.rd hr1 hm1).f1; clear hr1 hm1)
        | (go_at_call 66; (with_reducible refine (HTK.out _ 110 false Q4.out.rs E1.out).mono ?_); rintro e v1 ⟨rfl, hr1, hm1⟩; have T1 := Aside0.mk (Q4.out.rd hr1 hm1); have k11 := (Q4.out.rd hr1 hm1).c1; have f11 := (Q4.out.rd hr1 hm1).f1; clear hr1 hm1)
        | ((with_reducible refine gate_storeT (t := 64) (p := 6) rfl ?_); refine store_cl rfl 6 _ rfl _ rfl _ c3 rfl (Q3.out.at_ 1 _ _ rfl).2 ?_; intro w5 hc hm; have Q4 := Aside0.mk (Q3.out.set 1 rfl hc hm); have k4 := (Q3.out.set 1 rfl hc hm).c1; have f4 := (Q3.out.set 1 rfl hc hm).f1; clear hc hm)
        | ((with_reducible refine gate_alloc (t := 64) (d := 6) rfl rfl ?_); refine alloc_cl rfl rfl rfl ?_; intro r6 w4 hg1 hc1 hb1; have Q3 := Aside0.mk (Q2.out.push hg1 hc1 hb1); clear hg1 hc1 hb1)
        | (go_at_call 101; (with_reducible refine (HSV.out _).mono ?_); rintro e w3 ⟨c3, rfl, hx, hb⟩; have Q2 := Aside0.mk (Q1.out.call hb); have HX3 := Aside0.mk hx; clear hx hb)
        | (go_at_call 79; (with_reducible refine (see.calls g q s fold _ (Q0.out.at_p q).rs).mono ?_); rintro e w2 ⟨rfl, hb⟩; have Q1 := Aside0.mk ((Q0.out.at_p q).call hb); clear hb; have hv2 := HB.out; rw [hv2]; clear hv2)
        | ((with_reducible refine gate_alloc (t := 64) (d := 2) rfl rfl ?_); refine alloc_cl rfl rfl rfl ?_; intro r2 w1 hg1 hc1 hb1; have Q0 := Aside0.mk (HQ.out.push hg1 hc1 hb1); have k1 := (HQ.out.push hg1 hc1 hb1).c1; have f1 := (HQ.out.push hg1 hc1 hb1).f1; clear hg1 hc1 hb1))
      (try simp only [Exit.inBlock, Exit.then])
      refine bodyPost_ret (results_cl3 rfl _ _ rfl rfl rfl (O2.out.at_ 0 _ _ rfl).2) rfl ?_
      exact RPost.good (f := fEsc) HR.out.symm O2.out.rs O2.out.mv
    have E2 := Aside0.mk (Bool.eq_false_iff.2 t2)
    rw [if_neg t2] at hr
    clear t2
    by_cases t3 : takeP s q 120 = true
    · have E3 := Aside0.mk t3
      rw [if_pos t3] at hr
      clear t3
      obtain ⟨q4, hq4⟩ : ∃ q4, q3 + 1 = q4 := ⟨_, rfl⟩
      rw [hq4] at hr
      obtain ⟨x1, hx1⟩ : ∃ x, digP (seeP s q2) = x := ⟨_, rfl⟩
      obtain ⟨x2, hx2⟩ : ∃ x, digP (seeP s q3) = x := ⟨_, rfl⟩
      have R1 := digP_range (seeP_range s q2).1 (seeP_range s q2).2
      have R2 := digP_range (seeP_range s q3).1 (seeP_range s q3).2
      rw [hx1] at hr R1
      rw [hx2] at hr R2
      by_cases n1 : x1 < 0
      · rw [if_pos n1] at hr
        have HD1 : Aside0 (∀ W', RS W' g s q2 fold → Calls Try.prog 102 #[.pointer (some ⟨g, 0, none⟩)] W' fun e w' => Bad q2 e ∧ Mv g W' w') := ⟨fun W' h => digit.bad g q2 s fold W' h (by rw [hx1]; omega)⟩
        have HR := Aside0.mk hr
        clear hr hq hq2 hq3 hq4 hx1 hx2 n1 R1 R2
        go_enter Try.func85, Try.ntmps85
        go_wp2_with (first
          | (go_at_call 102; (with_reducible refine (HD1.out _ T3.out.rs).mono ?_); rintro e d1 ⟨he, hm1⟩; unfold Bad at he; subst he; have T4 := Aside0.mk (T3.out.mv.trans hm1); clear hm1)
          | (go_at_call 66; (with_reducible refine (HTK.out _ 120 true T2.out.rs E3.out).mono ?_); rintro e v3 ⟨rfl, hr1, hm1⟩; have T3 := Aside0.mk (T2.out.rd hr1 hm1); have k13 := (T2.out.rd hr1 hm1).c1; have f13 := (T2.out.rd hr1 hm1).f1; clear hr1 hm1)
          | (go_at_call 66; (with_reducible refine (HTK.out _ 116 false T1.out.rs E2.out).mono ?_); rintro e v2 ⟨rfl, hr1, hm1⟩; have T2 := Aside0.mk (T1.out.rd hr1 hm1); have k12 := (T1.out.rd hr1 hm1).c1; have f12 := (T1.out.rd hr1 hm1).f1; clear hr1 hm1)
          | (go_at_call 66; (with_reducible refine (HTK.out _ 110 false Q4.out.rs E1.out).mono ?_); rintro e v1 ⟨rfl, hr1, hm1⟩; have T1 := Aside0.mk (Q4.out.rd hr1 hm1); have k11 := (Q4.out.rd hr1 hm1).c1; have f11 := (Q4.out.rd hr1 hm1).f1; clear hr1 hm1)
          | ((with_reducible refine gate_storeT (t := 64) (p := 6) rfl ?_); refine store_cl rfl 6 _ rfl _ rfl _ c3 rfl (Q3.out.at_ 1 _ _ rfl).2 ?_; intro w5 hc hm; have Q4 := Aside0.mk (Q3.out.set 1 rfl hc hm); have k4 := (Q3.out.set 1 rfl hc hm).c1; have f4 := (Q3.out.set 1 rfl hc hm).f1; clear hc hm)
          | ((with_reducible refine gate_alloc (t := 64) (d := 6) rfl rfl ?_); refine alloc_cl rfl rfl rfl ?_; intro r6 w4 hg1 hc1 hb1; have Q3 := Aside0.mk (Q2.out.push hg1 hc1 hb1); clear hg1 hc1 hb1)
          | (go_at_call 101; (with_reducible refine (HSV.out _).mono ?_); rintro e w3 ⟨c3, rfl, hx, hb⟩; have Q2 := Aside0.mk (Q1.out.call hb); have HX3 := Aside0.mk hx; clear hx hb)
          | (go_at_call 79; (with_reducible refine (see.calls g q s fold _ (Q0.out.at_p q).rs).mono ?_); rintro e w2 ⟨rfl, hb⟩; have Q1 := Aside0.mk ((Q0.out.at_p q).call hb); clear hb; have hv2 := HB.out; rw [hv2]; clear hv2)
          | ((with_reducible refine gate_alloc (t := 64) (d := 2) rfl rfl ?_); refine alloc_cl rfl rfl rfl ?_; intro r2 w1 hg1 hc1 hb1; have Q0 := Aside0.mk (HQ.out.push hg1 hc1 hb1); have k1 := (HQ.out.push hg1 hc1 hb1).c1; have f1 := (HQ.out.push hg1 hc1 hb1).f1; clear hg1 hc1 hb1))
        exact ⟨rfl, RPost.bad HR.out.symm T4.out⟩
      rw [if_neg n1] at hr
      have HD1 : Aside0 (∀ W', RS W' g s q2 fold → Calls Try.prog 102 #[.pointer (some ⟨g, 0, none⟩)] W' fun e w' => e = .returned (.int .u8 x1) ∧ RS w' g s q3 fold ∧ Mv g W' w') := ⟨fun W' h => by have := digit.good g q2 s fold W' h hs (by rw [hx1]; omega); rw [hx1, hq3] at this; exact this⟩
      by_cases n2 : x2 < 0
      · rw [if_pos n2] at hr
        have HD2 : Aside0 (∀ W', RS W' g s q3 fold → Calls Try.prog 102 #[.pointer (some ⟨g, 0, none⟩)] W' fun e w' => Bad q3 e ∧ Mv g W' w') := ⟨fun W' h => digit.bad g q3 s fold W' h (by rw [hx2]; omega)⟩
        have HR := Aside0.mk hr
        clear hr hq hq2 hq3 hq4 hx1 hx2 n2 n1 R1 R2
        go_enter Try.func85, Try.ntmps85
        go_wp2_with (first
          | (go_at_call 102; (with_reducible refine (HD2.out _ T4.out.rs).mono ?_); rintro e d2 ⟨he, hm1⟩; unfold Bad at he; subst he; have T5 := Aside0.mk (T4.out.mv.trans hm1); clear hm1)
          | (go_at_call 102; (with_reducible refine (HD1.out _ T3.out.rs).mono ?_); rintro e d1 ⟨rfl, hr1, hm1⟩; have T4 := Aside0.mk (T3.out.rd hr1 hm1); clear hr1 hm1)
          | (go_at_call 66; (with_reducible refine (HTK.out _ 120 true T2.out.rs E3.out).mono ?_); rintro e v3 ⟨rfl, hr1, hm1⟩; have T3 := Aside0.mk (T2.out.rd hr1 hm1); have k13 := (T2.out.rd hr1 hm1).c1; have f13 := (T2.out.rd hr1 hm1).f1; clear hr1 hm1)
          | (go_at_call 66; (with_reducible refine (HTK.out _ 116 false T1.out.rs E2.out).mono ?_); rintro e v2 ⟨rfl, hr1, hm1⟩; have T2 := Aside0.mk (T1.out.rd hr1 hm1); have k12 := (T1.out.rd hr1 hm1).c1; have f12 := (T1.out.rd hr1 hm1).f1; clear hr1 hm1)
          | (go_at_call 66; (with_reducible refine (HTK.out _ 110 false Q4.out.rs E1.out).mono ?_); rintro e v1 ⟨rfl, hr1, hm1⟩; have T1 := Aside0.mk (Q4.out.rd hr1 hm1); have k11 := (Q4.out.rd hr1 hm1).c1; have f11 := (Q4.out.rd hr1 hm1).f1; clear hr1 hm1)
          | ((with_reducible refine gate_storeT (t := 64) (p := 6) rfl ?_); refine store_cl rfl 6 _ rfl _ rfl _ c3 rfl (Q3.out.at_ 1 _ _ rfl).2 ?_; intro w5 hc hm; have Q4 := Aside0.mk (Q3.out.set 1 rfl hc hm); have k4 := (Q3.out.set 1 rfl hc hm).c1; have f4 := (Q3.out.set 1 rfl hc hm).f1; clear hc hm)
          | ((with_reducible refine gate_alloc (t := 64) (d := 6) rfl rfl ?_); refine alloc_cl rfl rfl rfl ?_; intro r6 w4 hg1 hc1 hb1; have Q3 := Aside0.mk (Q2.out.push hg1 hc1 hb1); clear hg1 hc1 hb1)
          | (go_at_call 101; (with_reducible refine (HSV.out _).mono ?_); rintro e w3 ⟨c3, rfl, hx, hb⟩; have Q2 := Aside0.mk (Q1.out.call hb); have HX3 := Aside0.mk hx; clear hx hb)
          | (go_at_call 79; (with_reducible refine (see.calls g q s fold _ (Q0.out.at_p q).rs).mono ?_); rintro e w2 ⟨rfl, hb⟩; have Q1 := Aside0.mk ((Q0.out.at_p q).call hb); clear hb; have hv2 := HB.out; rw [hv2]; clear hv2)
          | ((with_reducible refine gate_alloc (t := 64) (d := 2) rfl rfl ?_); refine alloc_cl rfl rfl rfl ?_; intro r2 w1 hg1 hc1 hb1; have Q0 := Aside0.mk (HQ.out.push hg1 hc1 hb1); have k1 := (HQ.out.push hg1 hc1 hb1).c1; have f1 := (HQ.out.push hg1 hc1 hb1).f1; clear hg1 hc1 hb1))
        exact ⟨rfl, RPost.bad HR.out.symm T5.out⟩
      rw [if_neg n2] at hr
      have HD2 : Aside0 (∀ W', RS W' g s q3 fold → Calls Try.prog 102 #[.pointer (some ⟨g, 0, none⟩)] W' fun e w' => e = .returned (.int .u8 x2) ∧ RS w' g s q4 fold ∧ Mv g W' w') := ⟨fun W' h => by have := digit.good g q3 s fold W' h hs (by rw [hx2]; omega); rw [hx2, hq4] at this; exact this⟩
      obtain ⟨y, hy⟩ : ∃ y, hexV x1 x2 = y := ⟨_, rfl⟩
      have hyr := hexV_range (by omega) R1.2 (by omega) R2.2
      rw [hy] at hr hyr
      unfold hexV at hy
      rw [IntKind.wrap_u8] at hy
      obtain ⟨o1, ho1⟩ : ∃ o, onlyC y = o := ⟨_, rfl⟩
      rw [ho1] at hr
      have HON : Aside0 (∀ W', Calls Try.prog 81 #[.int .u8 y] W' fun e w' => e = .returned (.agg o1.cells) ∧ Below W'.heap.size W' w') := ⟨fun W' => by rw [← ho1]; exact only.calls y W' hyr.1 hyr.2⟩
      have HR := Aside0.mk hr
      clear hr ho1
      clear hq hq2 hq3 hq4 hx1 hx2 n2 n1 R1 R2 hyr
      go_enter Try.func85, Try.ntmps85
      go_wp2_with (first
        | ((with_reducible refine gate_storeT (t := 64) (p := 2) rfl ?_); refine store_cl rfl 2 _ rfl _ rfl _ o1 rfl (O1.out.at_ 0 _ _ rfl).2 ?_; intro u2 hc hm; have O2 := Aside0.mk (O1.out.set 0 rfl hc hm); clear hc hm)
        | (go_at_call 81; (with_reducible refine (HON.out _).mono ?_); rintro e u1 ⟨rfl, hb⟩; have O1 := Aside0.mk (T5.out.call hb); clear hb)
        | (go_at_call 102; (with_reducible refine (HD2.out _ T4.out.rs).mono ?_); rintro e d2 ⟨rfl, hr1, hm1⟩; have T5 := Aside0.mk (T4.out.rd hr1 hm1); clear hr1 hm1)
        | (go_at_call 102; (with_reducible refine (HD1.out _ T3.out.rs).mono ?_); rintro e d1 ⟨rfl, hr1, hm1⟩; have T4 := Aside0.mk (T3.out.rd hr1 hm1); clear hr1 hm1)
        | (go_at_call 66; (with_reducible refine (HTK.out _ 120 true T2.out.rs E3.out).mono ?_); rintro e v3 ⟨rfl, hr1, hm1⟩; have T3 := Aside0.mk (T2.out.rd hr1 hm1); have k13 := (T2.out.rd hr1 hm1).c1; have f13 := (T2.out.rd hr1 hm1).f1; clear hr1 hm1)
        | (go_at_call 66; (with_reducible refine (HTK.out _ 116 false T1.out.rs E2.out).mono ?_); rintro e v2 ⟨rfl, hr1, hm1⟩; have T2 := Aside0.mk (T1.out.rd hr1 hm1); have k12 := (T1.out.rd hr1 hm1).c1; have f12 := (T1.out.rd hr1 hm1).f1; clear hr1 hm1)
        | (go_at_call 66; (with_reducible refine (HTK.out _ 110 false Q4.out.rs E1.out).mono ?_); rintro e v1 ⟨rfl, hr1, hm1⟩; have T1 := Aside0.mk (Q4.out.rd hr1 hm1); have k11 := (Q4.out.rd hr1 hm1).c1; have f11 := (Q4.out.rd hr1 hm1).f1; clear hr1 hm1)
        | ((with_reducible refine gate_storeT (t := 64) (p := 6) rfl ?_); refine store_cl rfl 6 _ rfl _ rfl _ c3 rfl (Q3.out.at_ 1 _ _ rfl).2 ?_; intro w5 hc hm; have Q4 := Aside0.mk (Q3.out.set 1 rfl hc hm); have k4 := (Q3.out.set 1 rfl hc hm).c1; have f4 := (Q3.out.set 1 rfl hc hm).f1; clear hc hm)
        | ((with_reducible refine gate_alloc (t := 64) (d := 6) rfl rfl ?_); refine alloc_cl rfl rfl rfl ?_; intro r6 w4 hg1 hc1 hb1; have Q3 := Aside0.mk (Q2.out.push hg1 hc1 hb1); clear hg1 hc1 hb1)
        | (go_at_call 101; (with_reducible refine (HSV.out _).mono ?_); rintro e w3 ⟨c3, rfl, hx, hb⟩; have Q2 := Aside0.mk (Q1.out.call hb); have HX3 := Aside0.mk hx; clear hx hb)
        | (go_at_call 79; (with_reducible refine (see.calls g q s fold _ (Q0.out.at_p q).rs).mono ?_); rintro e w2 ⟨rfl, hb⟩; have Q1 := Aside0.mk ((Q0.out.at_p q).call hb); clear hb; have hv2 := HB.out; rw [hv2]; clear hv2)
        | ((with_reducible refine gate_alloc (t := 64) (d := 2) rfl rfl ?_); refine alloc_cl rfl rfl rfl ?_; intro r2 w1 hg1 hc1 hb1; have Q0 := Aside0.mk (HQ.out.push hg1 hc1 hb1); have k1 := (HQ.out.push hg1 hc1 hb1).c1; have f1 := (HQ.out.push hg1 hc1 hb1).f1; clear hg1 hc1 hb1))
      (try simp only [Exit.inBlock, Exit.then])
      refine bodyPost_ret (results_cl3 rfl _ _ rfl rfl rfl (O2.out.at_ 0 _ _ rfl).2) rfl ?_
      exact RPost.good (f := fEsc) HR.out.symm O2.out.rs O2.out.mv
    have E3 := Aside0.mk (Bool.eq_false_iff.2 t3)
    rw [if_neg t3] at hr
    clear t3
    have HL8 : Aside0 (low8 b = Go.bits .or .u8 b 32) := ⟨rfl⟩
    obtain ⟨y, hy⟩ : ∃ y, Go.bits .or .u8 b 32 = y := ⟨_, rfl⟩
    rw [hy] at HL8
    have hne : notEsc b ↔ (b < 32 ∨ 126 < b ∨ (48 ≤ b ∧ b ≤ 57) ∨ (97 ≤ y ∧ y ≤ 122)) := by unfold notEsc; rw [HL8.out]
    by_cases m1 : b < 32
    · rw [if_pos (hne.2 (.inl m1))] at hr
      have HR := Aside0.mk hr
      clear hr hne
      clear hq hq2 hq3
      go_enter Try.func85, Try.ntmps85
      go_wp2_with (first
        | (go_at_call 52; (with_reducible refine (fail.calls _ q _).mono ?_); rintro e w9 ⟨he, rfl⟩; unfold Bad at he; subst he)
        | (go_at_call 66; (with_reducible refine (HTK.out _ 120 false T2.out.rs E3.out).mono ?_); rintro e v3 ⟨rfl, hr1, hm1⟩; have T3 := Aside0.mk (T2.out.rd hr1 hm1); have k13 := (T2.out.rd hr1 hm1).c1; have f13 := (T2.out.rd hr1 hm1).f1; clear hr1 hm1)
        | (go_at_call 66; (with_reducible refine (HTK.out _ 116 false T1.out.rs E2.out).mono ?_); rintro e v2 ⟨rfl, hr1, hm1⟩; have T2 := Aside0.mk (T1.out.rd hr1 hm1); have k12 := (T1.out.rd hr1 hm1).c1; have f12 := (T1.out.rd hr1 hm1).f1; clear hr1 hm1)
        | (go_at_call 66; (with_reducible refine (HTK.out _ 110 false Q4.out.rs E1.out).mono ?_); rintro e v1 ⟨rfl, hr1, hm1⟩; have T1 := Aside0.mk (Q4.out.rd hr1 hm1); have k11 := (Q4.out.rd hr1 hm1).c1; have f11 := (Q4.out.rd hr1 hm1).f1; clear hr1 hm1)
        | ((with_reducible refine gate_storeT (t := 64) (p := 6) rfl ?_); refine store_cl rfl 6 _ rfl _ rfl _ c3 rfl (Q3.out.at_ 1 _ _ rfl).2 ?_; intro w5 hc hm; have Q4 := Aside0.mk (Q3.out.set 1 rfl hc hm); have k4 := (Q3.out.set 1 rfl hc hm).c1; have f4 := (Q3.out.set 1 rfl hc hm).f1; clear hc hm)
        | ((with_reducible refine gate_alloc (t := 64) (d := 6) rfl rfl ?_); refine alloc_cl rfl rfl rfl ?_; intro r6 w4 hg1 hc1 hb1; have Q3 := Aside0.mk (Q2.out.push hg1 hc1 hb1); clear hg1 hc1 hb1)
        | (go_at_call 101; (with_reducible refine (HSV.out _).mono ?_); rintro e w3 ⟨c3, rfl, hx, hb⟩; have Q2 := Aside0.mk (Q1.out.call hb); have HX3 := Aside0.mk hx; clear hx hb)
        | (go_at_call 79; (with_reducible refine (see.calls g q s fold _ (Q0.out.at_p q).rs).mono ?_); rintro e w2 ⟨rfl, hb⟩; have Q1 := Aside0.mk ((Q0.out.at_p q).call hb); clear hb; have hv2 := HB.out; rw [hv2]; clear hv2)
        | ((with_reducible refine gate_alloc (t := 64) (d := 2) rfl rfl ?_); refine alloc_cl rfl rfl rfl ?_; intro r2 w1 hg1 hc1 hb1; have Q0 := Aside0.mk (HQ.out.push hg1 hc1 hb1); have k1 := (HQ.out.push hg1 hc1 hb1).c1; have f1 := (HQ.out.push hg1 hc1 hb1).f1; clear hg1 hc1 hb1))
      exact ⟨rfl, RPost.bad HR.out.symm T3.out.mv⟩
    by_cases m2 : 126 < b
    · rw [if_pos (hne.2 (.inr (.inl m2)))] at hr
      have HR := Aside0.mk hr
      clear hr hne
      clear hq hq2 hq3
      go_enter Try.func85, Try.ntmps85
      go_wp2_with (first
        | (go_at_call 52; (with_reducible refine (fail.calls _ q _).mono ?_); rintro e w9 ⟨he, rfl⟩; unfold Bad at he; subst he)
        | (go_at_call 66; (with_reducible refine (HTK.out _ 120 false T2.out.rs E3.out).mono ?_); rintro e v3 ⟨rfl, hr1, hm1⟩; have T3 := Aside0.mk (T2.out.rd hr1 hm1); have k13 := (T2.out.rd hr1 hm1).c1; have f13 := (T2.out.rd hr1 hm1).f1; clear hr1 hm1)
        | (go_at_call 66; (with_reducible refine (HTK.out _ 116 false T1.out.rs E2.out).mono ?_); rintro e v2 ⟨rfl, hr1, hm1⟩; have T2 := Aside0.mk (T1.out.rd hr1 hm1); have k12 := (T1.out.rd hr1 hm1).c1; have f12 := (T1.out.rd hr1 hm1).f1; clear hr1 hm1)
        | (go_at_call 66; (with_reducible refine (HTK.out _ 110 false Q4.out.rs E1.out).mono ?_); rintro e v1 ⟨rfl, hr1, hm1⟩; have T1 := Aside0.mk (Q4.out.rd hr1 hm1); have k11 := (Q4.out.rd hr1 hm1).c1; have f11 := (Q4.out.rd hr1 hm1).f1; clear hr1 hm1)
        | ((with_reducible refine gate_storeT (t := 64) (p := 6) rfl ?_); refine store_cl rfl 6 _ rfl _ rfl _ c3 rfl (Q3.out.at_ 1 _ _ rfl).2 ?_; intro w5 hc hm; have Q4 := Aside0.mk (Q3.out.set 1 rfl hc hm); have k4 := (Q3.out.set 1 rfl hc hm).c1; have f4 := (Q3.out.set 1 rfl hc hm).f1; clear hc hm)
        | ((with_reducible refine gate_alloc (t := 64) (d := 6) rfl rfl ?_); refine alloc_cl rfl rfl rfl ?_; intro r6 w4 hg1 hc1 hb1; have Q3 := Aside0.mk (Q2.out.push hg1 hc1 hb1); clear hg1 hc1 hb1)
        | (go_at_call 101; (with_reducible refine (HSV.out _).mono ?_); rintro e w3 ⟨c3, rfl, hx, hb⟩; have Q2 := Aside0.mk (Q1.out.call hb); have HX3 := Aside0.mk hx; clear hx hb)
        | (go_at_call 79; (with_reducible refine (see.calls g q s fold _ (Q0.out.at_p q).rs).mono ?_); rintro e w2 ⟨rfl, hb⟩; have Q1 := Aside0.mk ((Q0.out.at_p q).call hb); clear hb; have hv2 := HB.out; rw [hv2]; clear hv2)
        | ((with_reducible refine gate_alloc (t := 64) (d := 2) rfl rfl ?_); refine alloc_cl rfl rfl rfl ?_; intro r2 w1 hg1 hc1 hb1; have Q0 := Aside0.mk (HQ.out.push hg1 hc1 hb1); have k1 := (HQ.out.push hg1 hc1 hb1).c1; have f1 := (HQ.out.push hg1 hc1 hb1).f1; clear hg1 hc1 hb1))
      exact ⟨rfl, RPost.bad HR.out.symm T3.out.mv⟩
    by_cases m3 : 48 ≤ b
    · by_cases m4 : b ≤ 57
      · rw [if_pos (hne.2 (.inr (.inr (.inl ⟨m3, m4⟩))))] at hr
        have HR := Aside0.mk hr
        clear hr hne
        clear hq hq2 hq3
        go_enter Try.func85, Try.ntmps85
        go_wp2_with (first
          | (go_at_call 52; (with_reducible refine (fail.calls _ q _).mono ?_); rintro e w9 ⟨he, rfl⟩; unfold Bad at he; subst he)
          | (go_at_call 66; (with_reducible refine (HTK.out _ 120 false T2.out.rs E3.out).mono ?_); rintro e v3 ⟨rfl, hr1, hm1⟩; have T3 := Aside0.mk (T2.out.rd hr1 hm1); have k13 := (T2.out.rd hr1 hm1).c1; have f13 := (T2.out.rd hr1 hm1).f1; clear hr1 hm1)
          | (go_at_call 66; (with_reducible refine (HTK.out _ 116 false T1.out.rs E2.out).mono ?_); rintro e v2 ⟨rfl, hr1, hm1⟩; have T2 := Aside0.mk (T1.out.rd hr1 hm1); have k12 := (T1.out.rd hr1 hm1).c1; have f12 := (T1.out.rd hr1 hm1).f1; clear hr1 hm1)
          | (go_at_call 66; (with_reducible refine (HTK.out _ 110 false Q4.out.rs E1.out).mono ?_); rintro e v1 ⟨rfl, hr1, hm1⟩; have T1 := Aside0.mk (Q4.out.rd hr1 hm1); have k11 := (Q4.out.rd hr1 hm1).c1; have f11 := (Q4.out.rd hr1 hm1).f1; clear hr1 hm1)
          | ((with_reducible refine gate_storeT (t := 64) (p := 6) rfl ?_); refine store_cl rfl 6 _ rfl _ rfl _ c3 rfl (Q3.out.at_ 1 _ _ rfl).2 ?_; intro w5 hc hm; have Q4 := Aside0.mk (Q3.out.set 1 rfl hc hm); have k4 := (Q3.out.set 1 rfl hc hm).c1; have f4 := (Q3.out.set 1 rfl hc hm).f1; clear hc hm)
          | ((with_reducible refine gate_alloc (t := 64) (d := 6) rfl rfl ?_); refine alloc_cl rfl rfl rfl ?_; intro r6 w4 hg1 hc1 hb1; have Q3 := Aside0.mk (Q2.out.push hg1 hc1 hb1); clear hg1 hc1 hb1)
          | (go_at_call 101; (with_reducible refine (HSV.out _).mono ?_); rintro e w3 ⟨c3, rfl, hx, hb⟩; have Q2 := Aside0.mk (Q1.out.call hb); have HX3 := Aside0.mk hx; clear hx hb)
          | (go_at_call 79; (with_reducible refine (see.calls g q s fold _ (Q0.out.at_p q).rs).mono ?_); rintro e w2 ⟨rfl, hb⟩; have Q1 := Aside0.mk ((Q0.out.at_p q).call hb); clear hb; have hv2 := HB.out; rw [hv2]; clear hv2)
          | ((with_reducible refine gate_alloc (t := 64) (d := 2) rfl rfl ?_); refine alloc_cl rfl rfl rfl ?_; intro r2 w1 hg1 hc1 hb1; have Q0 := Aside0.mk (HQ.out.push hg1 hc1 hb1); have k1 := (HQ.out.push hg1 hc1 hb1).c1; have f1 := (HQ.out.push hg1 hc1 hb1).f1; clear hg1 hc1 hb1))
        exact ⟨rfl, RPost.bad HR.out.symm T3.out.mv⟩
      by_cases m5 : 97 ≤ y
      · by_cases m6 : y ≤ 122
        · rw [if_pos (hne.2 (.inr (.inr (.inr ⟨m5, m6⟩))))] at hr
          have HR := Aside0.mk hr
          clear hr hne
          clear hq hq2 hq3
          go_enter Try.func85, Try.ntmps85
          go_wp2_with (first
            | (go_at_call 52; (with_reducible refine (fail.calls _ q _).mono ?_); rintro e w9 ⟨he, rfl⟩; unfold Bad at he; subst he)
            | (go_at_call 66; (with_reducible refine (HTK.out _ 120 false T2.out.rs E3.out).mono ?_); rintro e v3 ⟨rfl, hr1, hm1⟩; have T3 := Aside0.mk (T2.out.rd hr1 hm1); have k13 := (T2.out.rd hr1 hm1).c1; have f13 := (T2.out.rd hr1 hm1).f1; clear hr1 hm1)
            | (go_at_call 66; (with_reducible refine (HTK.out _ 116 false T1.out.rs E2.out).mono ?_); rintro e v2 ⟨rfl, hr1, hm1⟩; have T2 := Aside0.mk (T1.out.rd hr1 hm1); have k12 := (T1.out.rd hr1 hm1).c1; have f12 := (T1.out.rd hr1 hm1).f1; clear hr1 hm1)
            | (go_at_call 66; (with_reducible refine (HTK.out _ 110 false Q4.out.rs E1.out).mono ?_); rintro e v1 ⟨rfl, hr1, hm1⟩; have T1 := Aside0.mk (Q4.out.rd hr1 hm1); have k11 := (Q4.out.rd hr1 hm1).c1; have f11 := (Q4.out.rd hr1 hm1).f1; clear hr1 hm1)
            | ((with_reducible refine gate_storeT (t := 64) (p := 6) rfl ?_); refine store_cl rfl 6 _ rfl _ rfl _ c3 rfl (Q3.out.at_ 1 _ _ rfl).2 ?_; intro w5 hc hm; have Q4 := Aside0.mk (Q3.out.set 1 rfl hc hm); have k4 := (Q3.out.set 1 rfl hc hm).c1; have f4 := (Q3.out.set 1 rfl hc hm).f1; clear hc hm)
            | ((with_reducible refine gate_alloc (t := 64) (d := 6) rfl rfl ?_); refine alloc_cl rfl rfl rfl ?_; intro r6 w4 hg1 hc1 hb1; have Q3 := Aside0.mk (Q2.out.push hg1 hc1 hb1); clear hg1 hc1 hb1)
            | (go_at_call 101; (with_reducible refine (HSV.out _).mono ?_); rintro e w3 ⟨c3, rfl, hx, hb⟩; have Q2 := Aside0.mk (Q1.out.call hb); have HX3 := Aside0.mk hx; clear hx hb)
            | (go_at_call 79; (with_reducible refine (see.calls g q s fold _ (Q0.out.at_p q).rs).mono ?_); rintro e w2 ⟨rfl, hb⟩; have Q1 := Aside0.mk ((Q0.out.at_p q).call hb); clear hb; have hv2 := HB.out; rw [hv2]; clear hv2)
            | ((with_reducible refine gate_alloc (t := 64) (d := 2) rfl rfl ?_); refine alloc_cl rfl rfl rfl ?_; intro r2 w1 hg1 hc1 hb1; have Q0 := Aside0.mk (HQ.out.push hg1 hc1 hb1); have k1 := (HQ.out.push hg1 hc1 hb1).c1; have f1 := (HQ.out.push hg1 hc1 hb1).f1; clear hg1 hc1 hb1))
          exact ⟨rfl, RPost.bad HR.out.symm T3.out.mv⟩
        rw [if_neg (fun h => by rcases hne.1 h with h | h | h | h <;> omega)] at hr
        clear hne
        have hlt : q < s.size := seeP_lt (by rw [HB.out]; omega)
        have w2 : IntKind.i64.wrap ((q : Int) + 1) = (q2 : Int) := by rw [IntKind.wrap_i64]; omega
        obtain ⟨o1, ho1⟩ : ∃ o, onlyC b = o := ⟨_, rfl⟩
        rw [ho1] at hr
        have HON : Aside0 (∀ W', Calls Try.prog 81 #[.int .u8 b] W' fun e w' => e = .returned (.agg o1.cells) ∧ Below W'.heap.size W' w') := ⟨fun W' => by rw [← ho1]; exact only.calls b W' HSR.out.1 HSR.out.2⟩
        have HR := Aside0.mk hr
        clear hr ho1
        clear hq hq2 hq3 hlt
        go_enter Try.func85, Try.ntmps85
        go_wp2_with (first
          | ((with_reducible refine gate_storeT (t := 64) (p := 2) rfl ?_); refine store_cl rfl 2 _ rfl _ rfl _ o1 rfl (O1.out.at_ 0 _ _ rfl).2 ?_; intro u2 hc hm; have O2 := Aside0.mk (O1.out.set 0 rfl hc hm); clear hc hm)
          | (go_at_call 81; (with_reducible refine (HON.out _).mono ?_); rintro e u1 ⟨rfl, hb⟩; have O1 := Aside0.mk ((T3.out.at_p q2).call hb); clear hb)
          | (go_at_call 66; (with_reducible refine (HTK.out _ 120 false T2.out.rs E3.out).mono ?_); rintro e v3 ⟨rfl, hr1, hm1⟩; have T3 := Aside0.mk (T2.out.rd hr1 hm1); have k13 := (T2.out.rd hr1 hm1).c1; have f13 := (T2.out.rd hr1 hm1).f1; clear hr1 hm1)
          | (go_at_call 66; (with_reducible refine (HTK.out _ 116 false T1.out.rs E2.out).mono ?_); rintro e v2 ⟨rfl, hr1, hm1⟩; have T2 := Aside0.mk (T1.out.rd hr1 hm1); have k12 := (T1.out.rd hr1 hm1).c1; have f12 := (T1.out.rd hr1 hm1).f1; clear hr1 hm1)
          | (go_at_call 66; (with_reducible refine (HTK.out _ 110 false Q4.out.rs E1.out).mono ?_); rintro e v1 ⟨rfl, hr1, hm1⟩; have T1 := Aside0.mk (Q4.out.rd hr1 hm1); have k11 := (Q4.out.rd hr1 hm1).c1; have f11 := (Q4.out.rd hr1 hm1).f1; clear hr1 hm1)
          | ((with_reducible refine gate_storeT (t := 64) (p := 6) rfl ?_); refine store_cl rfl 6 _ rfl _ rfl _ c3 rfl (Q3.out.at_ 1 _ _ rfl).2 ?_; intro w5 hc hm; have Q4 := Aside0.mk (Q3.out.set 1 rfl hc hm); have k4 := (Q3.out.set 1 rfl hc hm).c1; have f4 := (Q3.out.set 1 rfl hc hm).f1; clear hc hm)
          | ((with_reducible refine gate_alloc (t := 64) (d := 6) rfl rfl ?_); refine alloc_cl rfl rfl rfl ?_; intro r6 w4 hg1 hc1 hb1; have Q3 := Aside0.mk (Q2.out.push hg1 hc1 hb1); clear hg1 hc1 hb1)
          | (go_at_call 101; (with_reducible refine (HSV.out _).mono ?_); rintro e w3 ⟨c3, rfl, hx, hb⟩; have Q2 := Aside0.mk (Q1.out.call hb); have HX3 := Aside0.mk hx; clear hx hb)
          | (go_at_call 79; (with_reducible refine (see.calls g q s fold _ (Q0.out.at_p q).rs).mono ?_); rintro e w2 ⟨rfl, hb⟩; have Q1 := Aside0.mk ((Q0.out.at_p q).call hb); clear hb; have hv2 := HB.out; rw [hv2]; clear hv2)
          | ((with_reducible refine gate_alloc (t := 64) (d := 2) rfl rfl ?_); refine alloc_cl rfl rfl rfl ?_; intro r2 w1 hg1 hc1 hb1; have Q0 := Aside0.mk (HQ.out.push hg1 hc1 hb1); have k1 := (HQ.out.push hg1 hc1 hb1).c1; have f1 := (HQ.out.push hg1 hc1 hb1).f1; clear hg1 hc1 hb1))
        (try simp only [Exit.inBlock, Exit.then])
        refine bodyPost_ret (results_cl3 rfl _ _ rfl rfl rfl (O2.out.at_ 0 _ _ rfl).2) rfl ?_
        exact RPost.good (f := fEsc) HR.out.symm O2.out.rs O2.out.mv
      rw [if_neg (fun h => by rcases hne.1 h with h | h | h | h <;> omega)] at hr
      clear hne
      have hlt : q < s.size := seeP_lt (by rw [HB.out]; omega)
      have w2 : IntKind.i64.wrap ((q : Int) + 1) = (q2 : Int) := by rw [IntKind.wrap_i64]; omega
      obtain ⟨o1, ho1⟩ : ∃ o, onlyC b = o := ⟨_, rfl⟩
      rw [ho1] at hr
      have HON : Aside0 (∀ W', Calls Try.prog 81 #[.int .u8 b] W' fun e w' => e = .returned (.agg o1.cells) ∧ Below W'.heap.size W' w') := ⟨fun W' => by rw [← ho1]; exact only.calls b W' HSR.out.1 HSR.out.2⟩
      have HR := Aside0.mk hr
      clear hr ho1
      clear hq hq2 hq3 hlt
      go_enter Try.func85, Try.ntmps85
      go_wp2_with (first
        | ((with_reducible refine gate_storeT (t := 64) (p := 2) rfl ?_); refine store_cl rfl 2 _ rfl _ rfl _ o1 rfl (O1.out.at_ 0 _ _ rfl).2 ?_; intro u2 hc hm; have O2 := Aside0.mk (O1.out.set 0 rfl hc hm); clear hc hm)
        | (go_at_call 81; (with_reducible refine (HON.out _).mono ?_); rintro e u1 ⟨rfl, hb⟩; have O1 := Aside0.mk ((T3.out.at_p q2).call hb); clear hb)
        | (go_at_call 66; (with_reducible refine (HTK.out _ 120 false T2.out.rs E3.out).mono ?_); rintro e v3 ⟨rfl, hr1, hm1⟩; have T3 := Aside0.mk (T2.out.rd hr1 hm1); have k13 := (T2.out.rd hr1 hm1).c1; have f13 := (T2.out.rd hr1 hm1).f1; clear hr1 hm1)
        | (go_at_call 66; (with_reducible refine (HTK.out _ 116 false T1.out.rs E2.out).mono ?_); rintro e v2 ⟨rfl, hr1, hm1⟩; have T2 := Aside0.mk (T1.out.rd hr1 hm1); have k12 := (T1.out.rd hr1 hm1).c1; have f12 := (T1.out.rd hr1 hm1).f1; clear hr1 hm1)
        | (go_at_call 66; (with_reducible refine (HTK.out _ 110 false Q4.out.rs E1.out).mono ?_); rintro e v1 ⟨rfl, hr1, hm1⟩; have T1 := Aside0.mk (Q4.out.rd hr1 hm1); have k11 := (Q4.out.rd hr1 hm1).c1; have f11 := (Q4.out.rd hr1 hm1).f1; clear hr1 hm1)
        | ((with_reducible refine gate_storeT (t := 64) (p := 6) rfl ?_); refine store_cl rfl 6 _ rfl _ rfl _ c3 rfl (Q3.out.at_ 1 _ _ rfl).2 ?_; intro w5 hc hm; have Q4 := Aside0.mk (Q3.out.set 1 rfl hc hm); have k4 := (Q3.out.set 1 rfl hc hm).c1; have f4 := (Q3.out.set 1 rfl hc hm).f1; clear hc hm)
        | ((with_reducible refine gate_alloc (t := 64) (d := 6) rfl rfl ?_); refine alloc_cl rfl rfl rfl ?_; intro r6 w4 hg1 hc1 hb1; have Q3 := Aside0.mk (Q2.out.push hg1 hc1 hb1); clear hg1 hc1 hb1)
        | (go_at_call 101; (with_reducible refine (HSV.out _).mono ?_); rintro e w3 ⟨c3, rfl, hx, hb⟩; have Q2 := Aside0.mk (Q1.out.call hb); have HX3 := Aside0.mk hx; clear hx hb)
        | (go_at_call 79; (with_reducible refine (see.calls g q s fold _ (Q0.out.at_p q).rs).mono ?_); rintro e w2 ⟨rfl, hb⟩; have Q1 := Aside0.mk ((Q0.out.at_p q).call hb); clear hb; have hv2 := HB.out; rw [hv2]; clear hv2)
        | ((with_reducible refine gate_alloc (t := 64) (d := 2) rfl rfl ?_); refine alloc_cl rfl rfl rfl ?_; intro r2 w1 hg1 hc1 hb1; have Q0 := Aside0.mk (HQ.out.push hg1 hc1 hb1); have k1 := (HQ.out.push hg1 hc1 hb1).c1; have f1 := (HQ.out.push hg1 hc1 hb1).f1; clear hg1 hc1 hb1))
      (try simp only [Exit.inBlock, Exit.then])
      refine bodyPost_ret (results_cl3 rfl _ _ rfl rfl rfl (O2.out.at_ 0 _ _ rfl).2) rfl ?_
      exact RPost.good (f := fEsc) HR.out.symm O2.out.rs O2.out.mv
    by_cases m5 : 97 ≤ y
    · by_cases m6 : y ≤ 122
      · rw [if_pos (hne.2 (.inr (.inr (.inr ⟨m5, m6⟩))))] at hr
        have HR := Aside0.mk hr
        clear hr hne
        clear hq hq2 hq3
        go_enter Try.func85, Try.ntmps85
        go_wp2_with (first
          | (go_at_call 52; (with_reducible refine (fail.calls _ q _).mono ?_); rintro e w9 ⟨he, rfl⟩; unfold Bad at he; subst he)
          | (go_at_call 66; (with_reducible refine (HTK.out _ 120 false T2.out.rs E3.out).mono ?_); rintro e v3 ⟨rfl, hr1, hm1⟩; have T3 := Aside0.mk (T2.out.rd hr1 hm1); have k13 := (T2.out.rd hr1 hm1).c1; have f13 := (T2.out.rd hr1 hm1).f1; clear hr1 hm1)
          | (go_at_call 66; (with_reducible refine (HTK.out _ 116 false T1.out.rs E2.out).mono ?_); rintro e v2 ⟨rfl, hr1, hm1⟩; have T2 := Aside0.mk (T1.out.rd hr1 hm1); have k12 := (T1.out.rd hr1 hm1).c1; have f12 := (T1.out.rd hr1 hm1).f1; clear hr1 hm1)
          | (go_at_call 66; (with_reducible refine (HTK.out _ 110 false Q4.out.rs E1.out).mono ?_); rintro e v1 ⟨rfl, hr1, hm1⟩; have T1 := Aside0.mk (Q4.out.rd hr1 hm1); have k11 := (Q4.out.rd hr1 hm1).c1; have f11 := (Q4.out.rd hr1 hm1).f1; clear hr1 hm1)
          | ((with_reducible refine gate_storeT (t := 64) (p := 6) rfl ?_); refine store_cl rfl 6 _ rfl _ rfl _ c3 rfl (Q3.out.at_ 1 _ _ rfl).2 ?_; intro w5 hc hm; have Q4 := Aside0.mk (Q3.out.set 1 rfl hc hm); have k4 := (Q3.out.set 1 rfl hc hm).c1; have f4 := (Q3.out.set 1 rfl hc hm).f1; clear hc hm)
          | ((with_reducible refine gate_alloc (t := 64) (d := 6) rfl rfl ?_); refine alloc_cl rfl rfl rfl ?_; intro r6 w4 hg1 hc1 hb1; have Q3 := Aside0.mk (Q2.out.push hg1 hc1 hb1); clear hg1 hc1 hb1)
          | (go_at_call 101; (with_reducible refine (HSV.out _).mono ?_); rintro e w3 ⟨c3, rfl, hx, hb⟩; have Q2 := Aside0.mk (Q1.out.call hb); have HX3 := Aside0.mk hx; clear hx hb)
          | (go_at_call 79; (with_reducible refine (see.calls g q s fold _ (Q0.out.at_p q).rs).mono ?_); rintro e w2 ⟨rfl, hb⟩; have Q1 := Aside0.mk ((Q0.out.at_p q).call hb); clear hb; have hv2 := HB.out; rw [hv2]; clear hv2)
          | ((with_reducible refine gate_alloc (t := 64) (d := 2) rfl rfl ?_); refine alloc_cl rfl rfl rfl ?_; intro r2 w1 hg1 hc1 hb1; have Q0 := Aside0.mk (HQ.out.push hg1 hc1 hb1); have k1 := (HQ.out.push hg1 hc1 hb1).c1; have f1 := (HQ.out.push hg1 hc1 hb1).f1; clear hg1 hc1 hb1))
        exact ⟨rfl, RPost.bad HR.out.symm T3.out.mv⟩
      rw [if_neg (fun h => by rcases hne.1 h with h | h | h | h <;> omega)] at hr
      clear hne
      have hlt : q < s.size := seeP_lt (by rw [HB.out]; omega)
      have w2 : IntKind.i64.wrap ((q : Int) + 1) = (q2 : Int) := by rw [IntKind.wrap_i64]; omega
      obtain ⟨o1, ho1⟩ : ∃ o, onlyC b = o := ⟨_, rfl⟩
      rw [ho1] at hr
      have HON : Aside0 (∀ W', Calls Try.prog 81 #[.int .u8 b] W' fun e w' => e = .returned (.agg o1.cells) ∧ Below W'.heap.size W' w') := ⟨fun W' => by rw [← ho1]; exact only.calls b W' HSR.out.1 HSR.out.2⟩
      have HR := Aside0.mk hr
      clear hr ho1
      clear hq hq2 hq3 hlt
      go_enter Try.func85, Try.ntmps85
      go_wp2_with (first
        | ((with_reducible refine gate_storeT (t := 64) (p := 2) rfl ?_); refine store_cl rfl 2 _ rfl _ rfl _ o1 rfl (O1.out.at_ 0 _ _ rfl).2 ?_; intro u2 hc hm; have O2 := Aside0.mk (O1.out.set 0 rfl hc hm); clear hc hm)
        | (go_at_call 81; (with_reducible refine (HON.out _).mono ?_); rintro e u1 ⟨rfl, hb⟩; have O1 := Aside0.mk ((T3.out.at_p q2).call hb); clear hb)
        | (go_at_call 66; (with_reducible refine (HTK.out _ 120 false T2.out.rs E3.out).mono ?_); rintro e v3 ⟨rfl, hr1, hm1⟩; have T3 := Aside0.mk (T2.out.rd hr1 hm1); have k13 := (T2.out.rd hr1 hm1).c1; have f13 := (T2.out.rd hr1 hm1).f1; clear hr1 hm1)
        | (go_at_call 66; (with_reducible refine (HTK.out _ 116 false T1.out.rs E2.out).mono ?_); rintro e v2 ⟨rfl, hr1, hm1⟩; have T2 := Aside0.mk (T1.out.rd hr1 hm1); have k12 := (T1.out.rd hr1 hm1).c1; have f12 := (T1.out.rd hr1 hm1).f1; clear hr1 hm1)
        | (go_at_call 66; (with_reducible refine (HTK.out _ 110 false Q4.out.rs E1.out).mono ?_); rintro e v1 ⟨rfl, hr1, hm1⟩; have T1 := Aside0.mk (Q4.out.rd hr1 hm1); have k11 := (Q4.out.rd hr1 hm1).c1; have f11 := (Q4.out.rd hr1 hm1).f1; clear hr1 hm1)
        | ((with_reducible refine gate_storeT (t := 64) (p := 6) rfl ?_); refine store_cl rfl 6 _ rfl _ rfl _ c3 rfl (Q3.out.at_ 1 _ _ rfl).2 ?_; intro w5 hc hm; have Q4 := Aside0.mk (Q3.out.set 1 rfl hc hm); have k4 := (Q3.out.set 1 rfl hc hm).c1; have f4 := (Q3.out.set 1 rfl hc hm).f1; clear hc hm)
        | ((with_reducible refine gate_alloc (t := 64) (d := 6) rfl rfl ?_); refine alloc_cl rfl rfl rfl ?_; intro r6 w4 hg1 hc1 hb1; have Q3 := Aside0.mk (Q2.out.push hg1 hc1 hb1); clear hg1 hc1 hb1)
        | (go_at_call 101; (with_reducible refine (HSV.out _).mono ?_); rintro e w3 ⟨c3, rfl, hx, hb⟩; have Q2 := Aside0.mk (Q1.out.call hb); have HX3 := Aside0.mk hx; clear hx hb)
        | (go_at_call 79; (with_reducible refine (see.calls g q s fold _ (Q0.out.at_p q).rs).mono ?_); rintro e w2 ⟨rfl, hb⟩; have Q1 := Aside0.mk ((Q0.out.at_p q).call hb); clear hb; have hv2 := HB.out; rw [hv2]; clear hv2)
        | ((with_reducible refine gate_alloc (t := 64) (d := 2) rfl rfl ?_); refine alloc_cl rfl rfl rfl ?_; intro r2 w1 hg1 hc1 hb1; have Q0 := Aside0.mk (HQ.out.push hg1 hc1 hb1); have k1 := (HQ.out.push hg1 hc1 hb1).c1; have f1 := (HQ.out.push hg1 hc1 hb1).f1; clear hg1 hc1 hb1))
      (try simp only [Exit.inBlock, Exit.then])
      refine bodyPost_ret (results_cl3 rfl _ _ rfl rfl rfl (O2.out.at_ 0 _ _ rfl).2) rfl ?_
      exact RPost.good (f := fEsc) HR.out.symm O2.out.rs O2.out.mv
    rw [if_neg (fun h => by rcases hne.1 h with h | h | h | h <;> omega)] at hr
    clear hne
    have hlt : q < s.size := seeP_lt (by rw [HB.out]; omega)
    have w2 : IntKind.i64.wrap ((q : Int) + 1) = (q2 : Int) := by rw [IntKind.wrap_i64]; omega
    obtain ⟨o1, ho1⟩ : ∃ o, onlyC b = o := ⟨_, rfl⟩
    rw [ho1] at hr
    have HON : Aside0 (∀ W', Calls Try.prog 81 #[.int .u8 b] W' fun e w' => e = .returned (.agg o1.cells) ∧ Below W'.heap.size W' w') := ⟨fun W' => by rw [← ho1]; exact only.calls b W' HSR.out.1 HSR.out.2⟩
    have HR := Aside0.mk hr
    clear hr ho1
    clear hq hq2 hq3 hlt
    go_enter Try.func85, Try.ntmps85
    go_wp2_with (first
      | ((with_reducible refine gate_storeT (t := 64) (p := 2) rfl ?_); refine store_cl rfl 2 _ rfl _ rfl _ o1 rfl (O1.out.at_ 0 _ _ rfl).2 ?_; intro u2 hc hm; have O2 := Aside0.mk (O1.out.set 0 rfl hc hm); clear hc hm)
      | (go_at_call 81; (with_reducible refine (HON.out _).mono ?_); rintro e u1 ⟨rfl, hb⟩; have O1 := Aside0.mk ((T3.out.at_p q2).call hb); clear hb)
      | (go_at_call 66; (with_reducible refine (HTK.out _ 120 false T2.out.rs E3.out).mono ?_); rintro e v3 ⟨rfl, hr1, hm1⟩; have T3 := Aside0.mk (T2.out.rd hr1 hm1); have k13 := (T2.out.rd hr1 hm1).c1; have f13 := (T2.out.rd hr1 hm1).f1; clear hr1 hm1)
      | (go_at_call 66; (with_reducible refine (HTK.out _ 116 false T1.out.rs E2.out).mono ?_); rintro e v2 ⟨rfl, hr1, hm1⟩; have T2 := Aside0.mk (T1.out.rd hr1 hm1); have k12 := (T1.out.rd hr1 hm1).c1; have f12 := (T1.out.rd hr1 hm1).f1; clear hr1 hm1)
      | (go_at_call 66; (with_reducible refine (HTK.out _ 110 false Q4.out.rs E1.out).mono ?_); rintro e v1 ⟨rfl, hr1, hm1⟩; have T1 := Aside0.mk (Q4.out.rd hr1 hm1); have k11 := (Q4.out.rd hr1 hm1).c1; have f11 := (Q4.out.rd hr1 hm1).f1; clear hr1 hm1)
      | ((with_reducible refine gate_storeT (t := 64) (p := 6) rfl ?_); refine store_cl rfl 6 _ rfl _ rfl _ c3 rfl (Q3.out.at_ 1 _ _ rfl).2 ?_; intro w5 hc hm; have Q4 := Aside0.mk (Q3.out.set 1 rfl hc hm); have k4 := (Q3.out.set 1 rfl hc hm).c1; have f4 := (Q3.out.set 1 rfl hc hm).f1; clear hc hm)
      | ((with_reducible refine gate_alloc (t := 64) (d := 6) rfl rfl ?_); refine alloc_cl rfl rfl rfl ?_; intro r6 w4 hg1 hc1 hb1; have Q3 := Aside0.mk (Q2.out.push hg1 hc1 hb1); clear hg1 hc1 hb1)
      | (go_at_call 101; (with_reducible refine (HSV.out _).mono ?_); rintro e w3 ⟨c3, rfl, hx, hb⟩; have Q2 := Aside0.mk (Q1.out.call hb); have HX3 := Aside0.mk hx; clear hx hb)
      | (go_at_call 79; (with_reducible refine (see.calls g q s fold _ (Q0.out.at_p q).rs).mono ?_); rintro e w2 ⟨rfl, hb⟩; have Q1 := Aside0.mk ((Q0.out.at_p q).call hb); clear hb; have hv2 := HB.out; rw [hv2]; clear hv2)
      | ((with_reducible refine gate_alloc (t := 64) (d := 2) rfl rfl ?_); refine alloc_cl rfl rfl rfl ?_; intro r2 w1 hg1 hc1 hb1; have Q0 := Aside0.mk (HQ.out.push hg1 hc1 hb1); have k1 := (HQ.out.push hg1 hc1 hb1).c1; have f1 := (HQ.out.push hg1 hc1 hb1).f1; clear hg1 hc1 hb1))
    (try simp only [Exit.inBlock, Exit.then])
    refine bodyPost_ret (results_cl3 rfl _ _ rfl rfl rfl (O2.out.at_ 0 _ _ rfl).2) rfl ?_
    exact RPost.good (f := fEsc) HR.out.symm O2.out.rs O2.out.mv
end Go.Proofs.Ytclgnefeankbgaa.M
namespace Go.Proofs.Ytclgnefeankbgaa.M
open Go Go.RowKit Go.Proofs.YtclgnefeankbgaaW.PrintWords Go.Proofs.YtclgnefeankbgaaW.PrintLast Go.Proofs.YtclgnefeankbgaaW.PrintMore Hand
attribute [local go_sem] Oper.semAt_some max2_int min2_int max_two min_two max_three min_three max_four min_four
set_option linter.unusedVariables false
set_option linter.unusedSimpArgs false
/-- A byte, a class or an escape between brackets. -/
def oneR (s : ByteArray) (p : Nat) (front : Bool) : Rs (C4 × Int × Bool) :=
  if seeP s p < 32 ∨ 126 < seeP s p ∨ seeP s p = 93 then .bad p
  else if seeP s p = 92 then escR s p
  else if seeP s p = 45 ∧ front = false ∧ seeP s (p + 1) ≠ 93 then .bad p
  else .ok (onlyC (seeP s p), seeP s p, true) (p + 1)
theorem RPost.ok_elim {α : Type} {g q : Nat} {s : ByteArray} {fold : Bool} {W w' : World} {f : α → Value} {r : Rs α} {a : α} {e : Ending} (h : RPost g s fold W f r e w') (hr : r = .ok a q) : e = .returned (f a) ∧ RS w' g s q fold ∧ Mv g W w' := by subst hr; exact h
theorem RPost.bad_elim {α : Type} {g n : Nat} {s : ByteArray} {fold : Bool} {W w' : World} {f : α → Value} {r : Rs α} {e : Ending} (h : RPost g s fold W f r e w') (hr : r = .bad n) : Bad n e ∧ Mv g W w' := by subst hr; exact h
set_option maxHeartbeats 8000000 in
set_option maxRecDepth 100000 in
theorem one.calls (g p : Nat) (s : ByteArray) (fold front : Bool) (W : World) (h : RS W g s p fold) (hs : s.size ≤ 200) :
    Calls Try.prog 97 #[.pointer (some ⟨g, 0, none⟩), .bool front] W fun e w' => RPost g s fold W fEsc (oneR s p front) e w' := by
  have HQ := Aside0.mk (QL.nil h)
  obtain ⟨r, hr⟩ : ∃ r, oneR s p front = r := ⟨_, rfl⟩
  rw [hr]
  unfold oneR at hr
  obtain ⟨q, hq⟩ : ∃ q, p + 1 = q := ⟨_, rfl⟩
  rw [hq] at hr
  have HSR := Aside0.mk (seeP_range s p)
  obtain ⟨b, hb⟩ : ∃ b, seeP s p = b := ⟨_, rfl⟩
  rw [hb] at hr HSR
  have HB := Aside0.mk hb
  obtain ⟨er, her⟩ : ∃ er, escR s p = er := ⟨_, rfl⟩
  rw [her] at hr
  have HES : Aside0 (p < s.size → ∀ W', RS W' g s p fold → Calls Try.prog 85 #[.pointer (some ⟨g, 0, none⟩)] W' fun e w' => RPost g s fold W' fEsc er e w') := ⟨fun hp W' h => by have := escape.calls g p s fold W' h hs hp; rw [her] at this; exact this⟩
  clear her
  clear h hb
  by_cases m1 : b < 32
  · rw [if_pos (.inl m1)] at hr
    have HR := Aside0.mk hr
    have d1 : decide (b < 32) = true := decide_eq_true m1
    clear hr hq m1
    go_enter Try.func97, Try.ntmps97
    go_wp2_with (first
      | (go_at_call 52; (with_reducible refine (fail.calls _ p _).mono ?_); rintro e w9 ⟨he, rfl⟩; unfold Bad at he; subst he)
      | (go_at_call 79; (with_reducible refine (see.calls g p s fold _ Q0.out.rs).mono ?_); rintro e w2 ⟨rfl, hb⟩; have Q1 := Aside0.mk (Q0.out.call hb); have k1 := (Q0.out.call hb).c1; have k0 := (Q0.out.call hb).c0; have f1 := (Q0.out.call hb).f1; clear hb; have hv2 := HB.out; rw [hv2]; clear hv2)
      | ((with_reducible refine gate_alloc (t := 64) (d := 4) rfl rfl ?_); refine alloc_cl rfl rfl rfl ?_; intro r2 w1 hg1 hc1 hb1; have Q0 := Aside0.mk (HQ.out.push hg1 hc1 hb1); clear hg1 hc1 hb1))
    exact ⟨rfl, RPost.bad HR.out.symm Q1.out.mv⟩
  have d1 : decide (b < 32) = false := decide_eq_false m1
  by_cases m2 : 126 < b
  · rw [if_pos (.inr (.inl m2))] at hr
    have HR := Aside0.mk hr
    have d2 : decide (126 < b) = true := decide_eq_true m2
    clear hr hq m1 m2
    go_enter Try.func97, Try.ntmps97
    go_wp2_with (first
      | (go_at_call 52; (with_reducible refine (fail.calls _ p _).mono ?_); rintro e w9 ⟨he, rfl⟩; unfold Bad at he; subst he)
      | (go_at_call 79; (with_reducible refine (see.calls g p s fold _ Q0.out.rs).mono ?_); rintro e w2 ⟨rfl, hb⟩; have Q1 := Aside0.mk (Q0.out.call hb); have k1 := (Q0.out.call hb).c1; have k0 := (Q0.out.call hb).c0; have f1 := (Q0.out.call hb).f1; clear hb; have hv2 := HB.out; rw [hv2]; clear hv2)
      | ((with_reducible refine gate_alloc (t := 64) (d := 4) rfl rfl ?_); refine alloc_cl rfl rfl rfl ?_; intro r2 w1 hg1 hc1 hb1; have Q0 := Aside0.mk (HQ.out.push hg1 hc1 hb1); clear hg1 hc1 hb1))
    exact ⟨rfl, RPost.bad HR.out.symm Q1.out.mv⟩
  have d2 : decide (126 < b) = false := decide_eq_false m2
  by_cases m3 : b = 93
  · rw [if_pos (.inr (.inr m3))] at hr
    have HR := Aside0.mk hr
    have d3 : (b == 93) = true := beq_iff_eq.2 m3
    clear hr hq m1 m2 m3
    go_enter Try.func97, Try.ntmps97
    go_wp2_with (first
      | (go_at_call 52; (with_reducible refine (fail.calls _ p _).mono ?_); rintro e w9 ⟨he, rfl⟩; unfold Bad at he; subst he)
      | (go_at_call 79; (with_reducible refine (see.calls g p s fold _ Q0.out.rs).mono ?_); rintro e w2 ⟨rfl, hb⟩; have Q1 := Aside0.mk (Q0.out.call hb); have k1 := (Q0.out.call hb).c1; have k0 := (Q0.out.call hb).c0; have f1 := (Q0.out.call hb).f1; clear hb; have hv2 := HB.out; rw [hv2]; clear hv2)
      | ((with_reducible refine gate_alloc (t := 64) (d := 4) rfl rfl ?_); refine alloc_cl rfl rfl rfl ?_; intro r2 w1 hg1 hc1 hb1; have Q0 := Aside0.mk (HQ.out.push hg1 hc1 hb1); clear hg1 hc1 hb1))
    exact ⟨rfl, RPost.bad HR.out.symm Q1.out.mv⟩
  have d3 : (b == 93) = false := beq_eq_false_iff_ne.2 m3
  rw [if_neg (fun h => by rcases h with h | h | h <;> omega)] at hr
  have hlt : p < s.size := seeP_lt (by rw [HB.out]; omega)
  by_cases m4 : b = 92
  · rw [if_pos m4] at hr
    have d4 : (b == 92) = true := beq_iff_eq.2 m4
    cases er with
    | ok x q2 =>
      obtain ⟨c3, v3, t3⟩ := x
      have HEO : Aside0 (∀ W', RS W' g s p fold → Calls Try.prog 85 #[.pointer (some ⟨g, 0, none⟩)] W' fun e w' => e = .returned (.tuple #[.agg c3.cells, .int .u8 v3, .bool t3]) ∧ RS w' g s q2 fold ∧ Mv g W' w') := ⟨fun W' h => (HES.out hlt W' h).mono fun e w' h => h.ok_elim rfl⟩
      have HR := Aside0.mk hr
      clear hr hq m1 m2 m3 m4 hlt HES
      go_enter Try.func97, Try.ntmps97
      go_wp2_with (first
        | ((with_reducible refine gate_storeT (t := 64) (p := 4) rfl ?_); refine store_cl rfl 4 _ rfl _ rfl _ c3 rfl (Q2.out.at_ 0 _ _ rfl).2 ?_; intro u2 hc hm; have Q3 := Aside0.mk (Q2.out.set 0 rfl hc hm); clear hc hm)
        | (go_at_call 85; (with_reducible refine (HEO.out _ Q1.out.rs).mono ?_); rintro e w3 ⟨rfl, hr1, hm1⟩; have Q2 := Aside0.mk (Q1.out.rd hr1 hm1); clear hr1 hm1)
        | (go_at_call 79; (with_reducible refine (see.calls g p s fold _ Q0.out.rs).mono ?_); rintro e w2 ⟨rfl, hb⟩; have Q1 := Aside0.mk (Q0.out.call hb); have k1 := (Q0.out.call hb).c1; have k0 := (Q0.out.call hb).c0; have f1 := (Q0.out.call hb).f1; clear hb; have hv2 := HB.out; rw [hv2]; clear hv2)
        | ((with_reducible refine gate_alloc (t := 64) (d := 4) rfl rfl ?_); refine alloc_cl rfl rfl rfl ?_; intro r2 w1 hg1 hc1 hb1; have Q0 := Aside0.mk (HQ.out.push hg1 hc1 hb1); clear hg1 hc1 hb1))
      (try simp only [Exit.inBlock, Exit.then])
      refine bodyPost_ret (results_cl3 rfl _ _ rfl rfl rfl (Q3.out.at_ 0 _ _ rfl).2) rfl ?_
      exact RPost.good (f := fEsc) HR.out.symm Q3.out.rs Q3.out.mv
    | bad n =>
      have HEO : Aside0 (∀ W', RS W' g s p fold → Calls Try.prog 85 #[.pointer (some ⟨g, 0, none⟩)] W' fun e w' => Bad n e ∧ Mv g W' w') := ⟨fun W' h => (HES.out hlt W' h).mono fun e w' h => h.bad_elim rfl⟩
      have HR := Aside0.mk hr
      clear hr hq m1 m2 m3 m4 hlt HES
      go_enter Try.func97, Try.ntmps97
      go_wp2_with (first
        | (go_at_call 85; (with_reducible refine (HEO.out _ Q1.out.rs).mono ?_); rintro e w3 ⟨he, hm1⟩; unfold Bad at he; subst he; have Q2 := Aside0.mk (Q1.out.mv.trans hm1); clear hm1)
        | (go_at_call 79; (with_reducible refine (see.calls g p s fold _ Q0.out.rs).mono ?_); rintro e w2 ⟨rfl, hb⟩; have Q1 := Aside0.mk (Q0.out.call hb); have k1 := (Q0.out.call hb).c1; have k0 := (Q0.out.call hb).c0; have f1 := (Q0.out.call hb).f1; clear hb; have hv2 := HB.out; rw [hv2]; clear hv2)
        | ((with_reducible refine gate_alloc (t := 64) (d := 4) rfl rfl ?_); refine alloc_cl rfl rfl rfl ?_; intro r2 w1 hg1 hc1 hb1; have Q0 := Aside0.mk (HQ.out.push hg1 hc1 hb1); clear hg1 hc1 hb1))
      exact ⟨rfl, RPost.bad HR.out.symm Q2.out⟩
  rw [if_neg m4] at hr
  have d4 : (b == 92) = false := beq_eq_false_iff_ne.2 m4
  clear HES
  have w1 : IntKind.i64.wrap ((p : Int) + 1) = (q : Int) := by rw [IntKind.wrap_i64]; omega
  by_cases m5 : b = 45
  · have d5 : (b == 45) = true := beq_iff_eq.2 m5
    cases front with
    | true =>
      rw [if_neg (fun h => by cases h.2.1)] at hr
      obtain ⟨o1, ho1⟩ : ∃ o, onlyC b = o := ⟨_, rfl⟩
      rw [ho1] at hr
      have HON : Aside0 (∀ W', Calls Try.prog 81 #[.int .u8 b] W' fun e w' => e = .returned (.agg o1.cells) ∧ Below W'.heap.size W' w') := ⟨fun W' => by rw [← ho1]; exact only.calls b W' HSR.out.1 HSR.out.2⟩
      have HR := Aside0.mk hr
      clear hr ho1
      clear hq hlt m1 m2 m3 m4 m5
      go_enter Try.func97, Try.ntmps97
      go_wp2_with (first
        | (go_at_call 79; (with_reducible refine (see.calls g p s fold _ Q0.out.rs).mono ?_); rintro e w2 ⟨rfl, hb⟩; have Q1 := Aside0.mk (Q0.out.call hb); have k1 := (Q0.out.call hb).c1; have k0 := (Q0.out.call hb).c0; have f1 := (Q0.out.call hb).f1; clear hb; have hv2 := HB.out; rw [hv2]; clear hv2)
        | ((with_reducible refine gate_alloc (t := 64) (d := 4) rfl rfl ?_); refine alloc_cl rfl rfl rfl ?_; intro r2 w1 hg1 hc1 hb1; have Q0 := Aside0.mk (HQ.out.push hg1 hc1 hb1); clear hg1 hc1 hb1))
      go_quiet (fail)
      have D1 := Aside0.mk (Q1.out.call (pw_below_drewN (Below.refl _ w2) nq))
      go_wp2_with (first
        | ((with_reducible refine gate_storeT (t := 64) (p := 4) rfl ?_); refine store_cl rfl 4 _ rfl _ rfl _ o1 rfl (O1.out.at_ 0 _ _ rfl).2 ?_; intro u2 hc hm; have O2 := Aside0.mk (O1.out.set 0 rfl hc hm); clear hc hm)
        | (go_at_call 81; (with_reducible refine (HON.out _).mono ?_); rintro e u1 ⟨rfl, hb⟩; have O1 := Aside0.mk ((D1.out.at_p q).call hb); clear hb))
      (try simp only [Exit.inBlock, Exit.then])
      refine bodyPost_ret (results_cl3 rfl _ _ rfl rfl rfl (O2.out.at_ 0 _ _ rfl).2) rfl ?_
      exact RPost.good (f := fEsc) HR.out.symm O2.out.rs O2.out.mv
    | false =>
      by_cases m6 : q < s.size
      · have i0 : (0 : Int) ≤ (q : Int) := by omega
        have i1 : (q : Int) < (s.size : Int) := by omega
        have i2 : decide ((s.size : Int) ≤ (q : Int)) = false := decide_eq_false (by omega)
        have i3 : decide (s.size ≤ q) = false := decide_eq_false (by omega)
        have hse : seeP s q = ((s[q].toNat : Int)) := (if_pos m6).trans (bt_at m6)
        rw [hse] at hr
        by_cases m7 : (s[q].toNat : Int) = 93
        · have d7 : ((s[q].toNat : Int) != 93) = false := by simp [m7]
          rw [if_neg (fun h => h.2.2 m7)] at hr
          obtain ⟨o1, ho1⟩ : ∃ o, onlyC b = o := ⟨_, rfl⟩
          rw [ho1] at hr
          have HON : Aside0 (∀ W', Calls Try.prog 81 #[.int .u8 b] W' fun e w' => e = .returned (.agg o1.cells) ∧ Below W'.heap.size W' w') := ⟨fun W' => by rw [← ho1]; exact only.calls b W' HSR.out.1 HSR.out.2⟩
          have HR := Aside0.mk hr
          clear hr ho1
          clear hq hlt m1 m2 m3 m4 m5 m7 hse
          go_enter Try.func97, Try.ntmps97
          go_wp2_with (first
            | (go_at_call 79; (with_reducible refine (see.calls g p s fold _ Q0.out.rs).mono ?_); rintro e w2 ⟨rfl, hb⟩; have Q1 := Aside0.mk (Q0.out.call hb); have k1 := (Q0.out.call hb).c1; have k0 := (Q0.out.call hb).c0; have f1 := (Q0.out.call hb).f1; clear hb; have hv2 := HB.out; rw [hv2]; clear hv2)
            | ((with_reducible refine gate_alloc (t := 64) (d := 4) rfl rfl ?_); refine alloc_cl rfl rfl rfl ?_; intro r2 w1 hg1 hc1 hb1; have Q0 := Aside0.mk (HQ.out.push hg1 hc1 hb1); clear hg1 hc1 hb1))
          go_quiet (fail)
          have D1 := Aside0.mk (Q1.out.call (pw_below_drewN (Below.refl _ w2) nq))
          go_wp2_with (first
            | ((with_reducible refine gate_storeT (t := 64) (p := 4) rfl ?_); refine store_cl rfl 4 _ rfl _ rfl _ o1 rfl (O1.out.at_ 0 _ _ rfl).2 ?_; intro u2 hc hm; have O2 := Aside0.mk (O1.out.set 0 rfl hc hm); clear hc hm)
            | (go_at_call 81; (with_reducible refine (HON.out _).mono ?_); rintro e u1 ⟨rfl, hb⟩; have O1 := Aside0.mk ((D1.out.at_p q).call hb); clear hb))
          (try simp only [Exit.inBlock, Exit.then])
          refine bodyPost_ret (results_cl3 rfl _ _ rfl rfl rfl (O2.out.at_ 0 _ _ rfl).2) rfl ?_
          exact RPost.good (f := fEsc) HR.out.symm O2.out.rs O2.out.mv
        have d7 : ((s[q].toNat : Int) != 93) = true := by simp [m7]
        rw [if_pos ⟨m5, rfl, m7⟩] at hr
        have HR := Aside0.mk hr
        clear hr hq hlt m1 m2 m3 m4 m5 m7 hse
        go_enter Try.func97, Try.ntmps97
        go_wp2_with (first
          | (go_at_call 79; (with_reducible refine (see.calls g p s fold _ Q0.out.rs).mono ?_); rintro e w2 ⟨rfl, hb⟩; have Q1 := Aside0.mk (Q0.out.call hb); have k1 := (Q0.out.call hb).c1; have k0 := (Q0.out.call hb).c0; have f1 := (Q0.out.call hb).f1; clear hb; have hv2 := HB.out; rw [hv2]; clear hv2)
          | ((with_reducible refine gate_alloc (t := 64) (d := 4) rfl rfl ?_); refine alloc_cl rfl rfl rfl ?_; intro r2 w1 hg1 hc1 hb1; have Q0 := Aside0.mk (HQ.out.push hg1 hc1 hb1); clear hg1 hc1 hb1))
        go_quiet (fail)
        have D1 := Aside0.mk (Q1.out.call (pw_below_drewN (Below.refl _ w2) nq))
        go_wp2_with (first
          | (go_at_call 52; (with_reducible refine (fail.calls _ p _).mono ?_); rintro e w9 ⟨he, rfl⟩; unfold Bad at he; subst he))
        exact ⟨rfl, RPost.bad HR.out.symm D1.out.mv⟩
      have i2 : decide ((s.size : Int) ≤ (q : Int)) = true := decide_eq_true (by omega)
      have i3 : decide (s.size ≤ q) = true := decide_eq_true (by omega)
      rw [if_pos ⟨m5, rfl, by unfold seeP; rw [if_neg m6]; decide⟩] at hr
      have HR := Aside0.mk hr
      clear hr hq hlt m1 m2 m3 m4 m5 m6
      go_enter Try.func97, Try.ntmps97
      go_wp2_with (first
        | (go_at_call 79; (with_reducible refine (see.calls g p s fold _ Q0.out.rs).mono ?_); rintro e w2 ⟨rfl, hb⟩; have Q1 := Aside0.mk (Q0.out.call hb); have k1 := (Q0.out.call hb).c1; have k0 := (Q0.out.call hb).c0; have f1 := (Q0.out.call hb).f1; clear hb; have hv2 := HB.out; rw [hv2]; clear hv2)
        | ((with_reducible refine gate_alloc (t := 64) (d := 4) rfl rfl ?_); refine alloc_cl rfl rfl rfl ?_; intro r2 w1 hg1 hc1 hb1; have Q0 := Aside0.mk (HQ.out.push hg1 hc1 hb1); clear hg1 hc1 hb1))
      go_quiet (fail)
      have D1 := Aside0.mk (Q1.out.call (pw_below_drewN (Below.refl _ w2) nq))
      go_wp2_with (first
        | (go_at_call 52; (with_reducible refine (fail.calls _ p _).mono ?_); rintro e w9 ⟨he, rfl⟩; unfold Bad at he; subst he))
      exact ⟨rfl, RPost.bad HR.out.symm D1.out.mv⟩
  have d5 : (b == 45) = false := beq_eq_false_iff_ne.2 m5
  rw [if_neg (fun h => m5 h.1)] at hr
  obtain ⟨o1, ho1⟩ : ∃ o, onlyC b = o := ⟨_, rfl⟩
  rw [ho1] at hr
  have HON : Aside0 (∀ W', Calls Try.prog 81 #[.int .u8 b] W' fun e w' => e = .returned (.agg o1.cells) ∧ Below W'.heap.size W' w') := ⟨fun W' => by rw [← ho1]; exact only.calls b W' HSR.out.1 HSR.out.2⟩
  have HR := Aside0.mk hr
  clear hr ho1
  clear hq hlt m1 m2 m3 m4 m5
  go_enter Try.func97, Try.ntmps97
  go_wp2_with (first
    | (go_at_call 79; (with_reducible refine (see.calls g p s fold _ Q0.out.rs).mono ?_); rintro e w2 ⟨rfl, hb⟩; have Q1 := Aside0.mk (Q0.out.call hb); have k1 := (Q0.out.call hb).c1; have k0 := (Q0.out.call hb).c0; have f1 := (Q0.out.call hb).f1; clear hb; have hv2 := HB.out; rw [hv2]; clear hv2)
    | ((with_reducible refine gate_alloc (t := 64) (d := 4) rfl rfl ?_); refine alloc_cl rfl rfl rfl ?_; intro r2 w1 hg1 hc1 hb1; have Q0 := Aside0.mk (HQ.out.push hg1 hc1 hb1); clear hg1 hc1 hb1))
  go_quiet (fail)
  have D1 := Aside0.mk (Q1.out.call (pw_below_drewN (Below.refl _ w2) nq))
  go_wp2_with (first
    | ((with_reducible refine gate_storeT (t := 64) (p := 4) rfl ?_); refine store_cl rfl 4 _ rfl _ rfl _ o1 rfl (O1.out.at_ 0 _ _ rfl).2 ?_; intro u2 hc hm; have O2 := Aside0.mk (O1.out.set 0 rfl hc hm); clear hc hm)
    | (go_at_call 81; (with_reducible refine (HON.out _).mono ?_); rintro e u1 ⟨rfl, hb⟩; have O1 := Aside0.mk ((D1.out.at_p q).call hb); clear hb))
  (try simp only [Exit.inBlock, Exit.then])
  refine bodyPost_ret (results_cl3 rfl _ _ rfl rfl rfl (O2.out.at_ 0 _ _ rfl).2) rfl ?_
  exact RPost.good (f := fEsc) HR.out.symm O2.out.rs O2.out.mv
end Go.Proofs.Ytclgnefeankbgaa.M
