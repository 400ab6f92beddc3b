/- MatchQuotes: the walk of the law. Conditions: as each theorem says. -/
import Derived.Test.YtclgnefeankbgaaQ4
namespace Go.Proofs.Ytclgnefeankbgaa.M
open Go Go.RowKit Go.Proofs.YtclgnefeankbgaaW.PrintWords Go.Proofs.YtclgnefeankbgaaW.PrintLast Go.Proofs.YtclgnefeankbgaaW.PrintMore Hand
attribute [local go_sem] Oper.semAt_some max2_int min2_int max_two min_two max_three min_three max_four min_four
set_option linter.unusedVariables false
set_option linter.unusedSimpArgs false
def IsRowX (w : World) (a : Option Addr) (len cap : Nat) (zs : List Int) : Prop := (a = none ∧ len = 0 ∧ cap = 0 ∧ zs = []) ∨ ∃ x, a = some x ∧ len ≤ cap ∧ cap ≤ maxLen ∧ zs.length = cap ∧ (∀ i, i < zs.length → w.cell? (x.add i) = some (.int .u8 (zs.getD i 0))) ∧ ∀ n ∈ zs, (Lit.int .u8 n).wf = true
theorem BY.ofQ {w : World} {a : Option Addr} {len cap : Nat} {zs : List Int} (h : IsRowX w a len cap zs) (hn : len ≤ 1000000) : ∃ bs : List Int, len = bs.length ∧ BY w a bs ∧ bs.length ≤ cap := by
  obtain ⟨l, rfl, hr, hm, hw, hc⟩ := ReadsInt.ofRowC h
  exact ⟨l, rfl, ⟨Kd.C_of_reads (d := (0 : Int)) (h1 := fun _ => rfl) hr, fun x hx => wf8 (hw x hx), hn⟩, hc⟩
theorem strQ_inj {a b : List Int} (ha : ∀ x ∈ a, Byte x) (hb : ∀ x ∈ b, Byte x) (h : strOfNums a = strOfNums b) : a = b := by
  have t1 := see_str ha
  have t2 := see_str hb
  rw [h] at t1
  have hl : a.length = b.length := by have := t1.sz; have := t2.sz; omega
  refine List.ext_getElem hl fun i h1 h2 => ?_
  have e1 := t1.see i h1
  have e2 := t2.see i h2
  rw [e1] at e2
  rw [List.getD_eq_getElem?_getD, List.getElem?_eq_getElem h1, List.getD_eq_getElem?_getD, List.getElem?_eq_getElem h2] at e2
  exact e2
set_option maxHeartbeats 16000000 in
set_option maxRecDepth 100000 in
theorem MatchQuotes.small (A1 A2 : Option Addr) (n1 c1 n2 c2 : Nat) (W : World) (h : 32768 < n1 ∨ 300 < n2) : Calls Try.prog 6 #[.slice A1 n1 c1, .slice A2 n2 c2] W fun e w' => e = .returned (.bool true) ∧ Below W.heap.size W w' := by
  have HK := Aside0.mk known.calls
  by_cases c1 : 32768 < n1
  · have d1 : decide ((32768 : Int) < (n1 : Int)) = true := decide_eq_true (by omega)
    have d2 : decide (32768 < n1) = true := decide_eq_true c1
    clear h
    go_enter Try.func6, Try.ntmps6
    go_wp2_with (go_at_call 9; (with_reducible refine (HK.out _).mono ?_); rintro e w1 ⟨rfl, hb⟩; have HB := Aside0.mk hb; clear hb)
    go_ret
    exact ⟨rfl, HB.out⟩
  · have d1 : decide ((32768 : Int) < (n1 : Int)) = false := decide_eq_false (by omega)
    have d2 : decide (32768 < n1) = false := decide_eq_false c1
    have c2 : 300 < n2 := by omega
    have d3 : decide ((300 : Int) < (n2 : Int)) = true := decide_eq_true (by omega)
    have d4 : decide (300 < n2) = true := decide_eq_true c2
    clear h
    go_enter Try.func6, Try.ntmps6
    go_wp2_with (go_at_call 9; (with_reducible refine (HK.out _).mono ?_); rintro e w1 ⟨rfl, hb⟩; have HB := Aside0.mk hb; clear hb)
    go_ret
    exact ⟨rfl, HB.out⟩
set_option maxHeartbeats 16000000 in
set_option maxRecDepth 100000 in
theorem MatchQuotes.large (A1 A2 : Option Addr) (c1 c2 : Nat) (bs cs : List Int) (W : World) (hb : BY W A1 bs) (h1 : bs.length ≤ 32768) (h2 : cs.length ≤ 300) (hq : 200 < (quoteL bs).length) : Calls Try.prog 6 #[.slice A1 bs.length c1, .slice A2 cs.length c2] W fun e w' => e = .returned (.bool true) ∧ Below W.heap.size W w' := by
  have HK := Aside0.mk known.calls
  have hv : quoteV (quoteL bs) = .tuple #[.string ⟨#[]⟩, .int .i64 3] := by unfold quoteV; rw [if_pos hq]
  have qa := fun W' (h : Below W.heap.size W W') => Quote.calls A1 c1 bs W' (hb.call h)
  have qb := fun W' (h : Below W.heap.size W W') => rQuote.calls A1 c1 bs W' (hb.call h)
  simp only [hv] at qa qb
  obtain ⟨N, hN⟩ : ∃ N, bs.length = N := ⟨_, rfl⟩
  obtain ⟨M, hM⟩ : ∃ M, cs.length = M := ⟨_, rfl⟩
  simp only [hN, hM] at qa qb h1 h2 ⊢
  have HQA := Aside0.mk qa
  have HQB := Aside0.mk qb
  have d1 : decide ((32768 : Int) < (N : Int)) = false := decide_eq_false (by omega)
  have d2 : decide (32768 < N) = false := decide_eq_false (by omega)
  have d3 : decide ((300 : Int) < (M : Int)) = false := decide_eq_false (by omega)
  have d4 : decide (300 < M) = false := decide_eq_false (by omega)
  clear hv qa qb hN hM hb hq h1 h2
  go_enter Try.func6, Try.ntmps6
  go_wp2_with (first
    | (go_at_call 9; (with_reducible refine (HK.out _).mono ?_); rintro e w3 ⟨rfl, hb⟩; have HB3 := Aside0.mk (HB2.out.trans (hb.mono HB2.out.size)); clear hb)
    | (go_at_call 27; (with_reducible refine (HQB.out _ HB.out).mono ?_); rintro e w2 ⟨rfl, hb⟩; have HB2 := Aside0.mk (HB.out.trans (hb.mono HB.out.size)); clear hb)
    | (go_at_call 26; (with_reducible refine (HQA.out _ (Below.refl _ _)).mono ?_); rintro e w1 ⟨rfl, hb⟩; have HB := Aside0.mk hb; clear hb))
  go_ret
  exact ⟨rfl, HB3.out⟩
set_option maxHeartbeats 16000000 in
set_option maxRecDepth 100000 in
theorem MatchQuotes.ok (A1 A2 : Option Addr) (c1 c2 : Nat) (bs cs : List Int) (W : World) (hb : BY W A1 bs) (hc : BY W A2 cs) (h1 : bs.length ≤ 32768) (h2 : cs.length ≤ 300) (hq : (quoteL bs).length ≤ 200) : Calls Try.prog 6 #[.slice A1 bs.length c1, .slice A2 cs.length c2] W fun e w' => e = .returned (.bool true) ∧ Below W.heap.size W w' := by
  have HK := Aside0.mk known.calls
  have hv : quoteV (quoteL bs) = .tuple #[.string (strOfNums (quoteL bs)), .int .i64 0] := by unfold quoteV; rw [if_neg (by omega)]
  have qa := fun W' (h : Below W.heap.size W W') => Quote.calls A1 c1 bs W' (hb.call h)
  have qb := fun W' (h : Below W.heap.size W W') => rQuote.calls A1 c1 bs W' (hb.call h)
  simp only [hv] at qa qb
  have b1 : ∀ x ∈ bs, Byte x := fun x hx => hb.bd x hx
  have b2 : ∀ x ∈ cs, Byte x := fun x hx => hc.bd x hx
  obtain ⟨z, xs, hp, hends⟩ := parse_quote b1 hq
  have hpa := fun W' => Parse.callsT (strOfNums (quoteL bs)) false W' (by rw [strOfNums_size]; omega)
  simp only [hp] at hpa
  obtain ⟨S, hS⟩ : ∃ S, strOfNums (quoteL bs) = S := ⟨_, rfl⟩
  simp only [hS] at qa qb hpa
  obtain ⟨d, hd⟩ : ∃ d, decide (bs = cs) = d := ⟨_, rfl⟩
  have wb := fun pp bk W' (h : Below W.heap.size W W') (h2 : PT W' pp S z xs bk) => Whole.calls pp S z xs bk A1 c1 bs W' h2 (hb.call h)
  have wc := fun pp bk W' (h : Below W.heap.size W W') (h2 : PT W' pp S z xs bk) => Whole.calls pp S z xs bk A2 c2 cs W' h2 (hc.call h)
  have eb : decide ((bs.length : Int) ∈ endsP xs bs 0) = true := decide_eq_true ((hends bs b1).2 rfl)
  have ec : decide ((cs.length : Int) ∈ endsP xs cs 0) = d := by
    rw [← hd]
    have := hends cs b2
    exact decide_eq_decide.2 this
  simp only [eb] at wb
  simp only [ec] at wc
  have k1 : ∀ W', Below W.heap.size W W' → (convert 23 9 (.slice A1 bs.length c1)).run Try.prog W' = .ok (.string (strOfNums bs)) W' := fun W' h => Kd.C_string Try.underlying23 Try.underlying5 Try.underlying9 (hb.call h).C
  have k2 : ∀ W', Below W.heap.size W W' → (convert 23 9 (.slice A2 cs.length c2)).run Try.prog W' = .ok (.string (strOfNums cs)) W' := fun W' h => Kd.C_string Try.underlying23 Try.underlying5 Try.underlying9 (hc.call h).C
  have e1 : decide (strOfNums bs = strOfNums cs) = d := by
    rw [← hd]
    exact decide_eq_decide.2 ⟨strQ_inj b1 b2, fun h => by rw [h]⟩
  have e2 : decide ((strOfNums bs).toList = (strOfNums cs).toList) = d := by
    rw [← e1]
    refine decide_eq_decide.2 ⟨fun h => ?_, fun h => by rw [h]⟩
    rw [ByteArray.toList_eq, ByteArray.toList_eq] at h
    exact ByteArray.ext (Array.toList_inj.1 h)
  obtain ⟨S1, hS1⟩ : ∃ S, strOfNums bs = S := ⟨_, rfl⟩
  obtain ⟨S2, hS2⟩ : ∃ S, strOfNums cs = S := ⟨_, rfl⟩
  obtain ⟨N, hN⟩ : ∃ N, bs.length = N := ⟨_, rfl⟩
  obtain ⟨M, hM⟩ : ∃ M, cs.length = M := ⟨_, rfl⟩
  simp only [hN, hM, hS1, hS2] at qa qb h1 h2 wb wc k1 k2 e1 e2 ⊢
  have HQA := Aside0.mk qa
  have HQB := Aside0.mk qb
  have HPA : Aside0 (∀ W', Calls Try.prog 10 #[.string S, .bool false] W' fun e w' => ∃ g b, e = .returned (.tuple #[.pointer (some ⟨g, 0, none⟩), .int .i64 0, .int .i64 0]) ∧ PT w' g S z xs b ∧ Below W'.heap.size W' w') := ⟨hpa⟩
  have HWB := Aside0.mk wb
  have HWC := Aside0.mk wc
  have HK1 := Aside0.mk k1
  have HK2 := Aside0.mk k2
  have d1 : decide ((32768 : Int) < (N : Int)) = false := decide_eq_false (by omega)
  have d2 : decide (32768 < N) = false := decide_eq_false (by omega)
  have d3 : decide ((300 : Int) < (M : Int)) = false := decide_eq_false (by omega)
  have d4 : decide (300 < M) = false := decide_eq_false (by omega)
  clear hv qa qb hN hM hb hc hq h1 h2 hp hends hpa hS hd wb wc eb ec k1 k2 hS1 hS2 b1 b2
  go_enter Try.func6, Try.ntmps6
  go_wp2_with (first
    | (go_at_call 10; (with_reducible refine (HPA.out _).mono ?_); rintro e w3 ⟨pp, bk, rfl, hpt, hb⟩; have HPT := Aside0.mk hpt; have HB3 := Aside0.mk (HB2.out.trans (hb.mono HB2.out.size)); clear hb hpt)
    | (go_at_call 27; (with_reducible refine (HQB.out _ HB.out).mono ?_); rintro e w2 ⟨rfl, hb⟩; have HB2 := Aside0.mk (HB.out.trans (hb.mono HB.out.size)); clear hb)
    | (go_at_call 26; (with_reducible refine (HQA.out _ (Below.refl _ _)).mono ?_); rintro e w1 ⟨rfl, hb⟩; have HB := Aside0.mk hb; clear hb))
  have D3 := Aside0.mk (And.intro (below_drew1 HB3.out) (HPT.out.call (below_drew1 (Below.refl _ _))))
  (try dsimp only [Act.put])
  have e3 : (d = true ∧ S1.toList = S2.toList) ∨ (d = false ∧ ¬ S1.toList = S2.toList) := by
    cases d with
    | true => exact .inl ⟨rfl, of_decide_eq_true e2⟩
    | false => exact .inr ⟨rfl, of_decide_eq_false e2⟩
  clear e1 e2
  rcases e3 with ⟨rfl, e3⟩ | ⟨rfl, e3⟩
  all_goals (
    go_region_law (first
      | (go_simp; go_at_call 19; (with_reducible refine (HWB.out _ _ _ D3.out.1 D3.out.2).mono ?_); rintro e w4 ⟨rfl, hb⟩; have D4 := Aside0.mk (And.intro (D3.out.1.trans (hb.mono D3.out.1.size)) (D3.out.2.call hb)); have x1 := HK1.out _ D4.out.1; have x2 := HK2.out _ D4.out.1; clear hb)
      | (go_simp; go_at_call 19; (with_reducible refine (HWC.out _ _ _ D4.out.1 D4.out.2).mono ?_); rintro e w5 ⟨rfl, hb⟩; have D5 := Aside0.mk (D4.out.1.trans (hb.mono D4.out.1.size)); have x3 := HK1.out _ D5.out; have x4 := HK2.out _ D5.out; clear hb)
      | (go_simp; go_at_call 9; (with_reducible refine (HK.out _).mono ?_); rintro e w6 ⟨rfl, hb⟩; have D6 := Aside0.mk (D5.out.trans (hb.mono D5.out.size)); clear hb)))
  all_goals (
    (try dsimp only [Act.put])
    go_wp2
    go_ret
    rename_i dx da ha dy db hb
    have ea : da = 4 := (Option.some.inj ha).symm
    have eb : db = 70 := (Option.some.inj hb).symm
    subst ea
    subst eb
    refine ⟨?_, D6.out⟩
    simp [e3])
theorem MatchQuotes.walk (a0 : Option Addr) (len0 cap0 : Nat) (z0 : List Int) (a1 : Option Addr) (len1 cap1 : Nat) (z1 : List Int) (w : World) (w0 : IsRowX w a0 len0 cap0 z0) (y0 : len0 * 1 ≤ 140737488351232) (w1 : IsRowX w a1 len1 cap1 z1) (y1 : len1 * 1 ≤ 140737488351232) :
    Calls Try.prog 6 #[.slice a0 len0 cap0, .slice a1 len1 cap1] w fun e w' => e = .returned (.bool true) ∧ Below w.heap.size w w' := by
  by_cases h : 32768 < len0 ∨ 300 < len1
  · exact MatchQuotes.small a0 a1 len0 cap0 len1 cap1 w h
  · obtain ⟨bs, rfl, hb, _⟩ := BY.ofQ w0 (by omega)
    obtain ⟨cs, rfl, hc, _⟩ := BY.ofQ w1 (by omega)
    by_cases hq : 200 < (quoteL bs).length
    · exact MatchQuotes.large a0 a1 cap0 cap1 bs cs w hb (by omega) (by omega) hq
    · exact MatchQuotes.ok a0 a1 cap0 cap1 bs cs w hb hc (by omega) (by omega) (by omega)
end Go.Proofs.Ytclgnefeankbgaa.M
