/- Ends and Search of a pattern: the walks. Conditions: as each theorem says. -/
import Derived.Test.YtclgnefeankbgaaM41
import Derived.Lib.SlBytesConst
namespace Go.Proofs.Ytclgnefeankbgaa.M
open Go Go.RowKit Go.Proofs.YtclgnefeankbgaaW.PrintWords Go.Proofs.YtclgnefeankbgaaW.PrintLast Go.Proofs.YtclgnefeankbgaaW.PrintMore Hand
attribute [local go_sem] Oper.semAt_some max2_int min2_int max_two min_two max_three min_three max_four min_four
set_option linter.unusedVariables false
set_option linter.unusedSimpArgs false
/-- A pattern that was parsed: at a block, of steps that are whole. -/
structure PT (W : World) (pp : Nat) (s : ByteArray) (z : Int) (xs : List ST) (bk : Option Nat) : Prop where
  ps : PS W pp s z xs bk
  len : xs.length ≤ 1204
  wf : Nn xs
theorem PT.call {W W' : World} {pp : Nat} {s : ByteArray} {z : Int} {xs : List ST} {bk : Option Nat} (h : PT W pp s z xs bk) (hb : Below W.heap.size W W') : PT W' pp s z xs bk := ⟨h.ps.call hb, h.len, h.wf⟩
/-- Bytes that are read. -/
structure BY (W : World) (A : Option Addr) (bs : List Int) : Prop where
  C : Kd.C (Kd.int .u8) W A bs.length bs
  bd : ∀ x ∈ bs, 0 ≤ x ∧ x ≤ 255
  len : bs.length ≤ 1000000
theorem BY.call {W W' : World} {A : Option Addr} {bs : List Int} (h : BY W A bs) (hb : Below W.heap.size W W') : BY W' A bs := ⟨Kd.C_below h.C hb, h.bd, h.len⟩
/-- A row of numbers made anew. -/
def RI (w : World) (base : Nat) (v : Value) (l : List Int) : Prop := Kd.R (Kd.int .i64) 3 w base (fun _ => True) v l
theorem RI.nil (w : World) (base : Nat) : RI w base (.slice none 0 0) [] := Kd.R_nil _ _ _ _ _
theorem RI.call {w w' : World} {base : Nat} {v : Value} {l : List Int} (h : RI w base v l) (hb : Below w.heap.size w w') : RI w' base v l := Kd.R_below h hb
theorem RI.at_ {w : World} {base : Nat} {v : Value} {l : List Int} (h : RI w base v l) : ∃ (g : Option Nat) (c : Nat), v = .slice (g.map fun g => ⟨g, 0, none⟩) l.length c ∧ (∀ k, g = some k → base ≤ k) ∧ ∀ i, i < l.length → ∃ b, g = some b ∧ w.cell? ⟨b, i, none⟩ = some (.int .i64 (l.getD i 0)) := by
  obtain ⟨inner, hin⟩ := Kd.R_own h
  obtain ⟨A, c, hv, hl, hC⟩ := Kd.R_reads h
  rcases hin.2 with ⟨hn, h0⟩ | ⟨g, cap, cur, hv2, hg, _⟩
  · refine ⟨none, 0, ?_, (fun k hk => by cases hk), (fun i hi => by omega)⟩
    rw [hn, h0]
    rfl
  · refine ⟨some g, cap, hv2, fun k hk => by cases hk; exact hg, fun i hi => ⟨g, rfl, ?_⟩⟩
    rw [hv] at hv2
    cases hv2
    obtain ⟨ad, cs, h1, h2, h3, h4⟩ := Kd.C_get hC 0 (i : Int) (by omega) (by omega)
    cases h1
    have h3' : cs = [.int .i64 (l.getD i 0)] := h3
    subst h3'
    have := h4 0 _ rfl
    have e : (i : Int).toNat * (Kd.int .i64).sz + 0 = i := by show i * 1 + 0 = i; omega
    rw [e] at this
    have ea : ((⟨g, 0, none⟩ : Addr).add i) = ⟨g, i, none⟩ := by unfold Addr.add; split <;> simp_all
    rw [ea] at this
    exact this
theorem ends.callsB (pp : Nat) (s : ByteArray) (z : Int) (xs : List ST) (bk : Option Nat) (A : Option Addr) (c : Nat) (bs : List Int) (from_ : Nat) (W : World) (hp : PT W pp s z xs bk) (hb : BY W A bs) (hf : from_ ≤ bs.length) :
    Calls Try.prog 38 #[.pointer (some ⟨pp, 0, none⟩), .slice A bs.length c, .int .i64 (from_ : Int)] W fun e w' => ∃ v, e = .returned v ∧ RI w' W.heap.size v (endsP xs bs from_) ∧ Below W.heap.size W w' :=
  ends.calls pp s z xs bk A c bs from_ W hp.ps hb.C hb.bd hb.len hf hp.len hp.wf
/-- Where matches from any place end. -/
def endsI (xs : List ST) (bs : List Int) (at_ : Int) : List Int := if 0 ≤ at_ ∧ at_ ≤ bs.length then endsP xs bs at_.toNat else []
set_option maxHeartbeats 8000000 in
set_option maxRecDepth 100000 in
theorem Ends.calls (pp : Nat) (s : ByteArray) (z : Int) (xs : List ST) (bk : Option Nat) (A : Option Addr) (c : Nat) (bs : List Int) (at_ : Int) (W : World) (hp : PT W pp s z xs bk) (hb : BY W A bs) :
    Calls Try.prog 11 #[.pointer (some ⟨pp, 0, none⟩), .slice A bs.length c, .int .i64 at_] W fun e w' => ∃ v, e = .returned v ∧ RI w' W.heap.size v (endsI xs bs at_) ∧ Below W.heap.size W w' := by
  obtain ⟨R, hR⟩ : ∃ R, endsI xs bs at_ = R := ⟨_, rfl⟩
  rw [hR]
  unfold endsI at hR
  have hcall := fun from_ => ends.callsB pp s z xs bk A c bs from_
  obtain ⟨N, hN⟩ : ∃ N, bs.length = N := ⟨_, rfl⟩
  simp only [hN] at hR hcall ⊢
  by_cases c1 : at_ < 0
  · have d1 : decide (at_ < 0) = true := decide_eq_true c1
    rw [if_neg (by omega)] at hR
    subst hR
    clear hcall hp hb hN
    go_enter Try.func11, Try.ntmps11
    go_wp2
    go_ret
    exact ⟨_, rfl, RI.nil _ _, Below.refl _ _⟩
  · obtain ⟨n, rfl⟩ : ∃ n : Nat, at_ = (n : Int) := ⟨at_.toNat, by omega⟩
    have d1 : decide ((n : Int) < 0) = false := decide_eq_false c1
    by_cases c2 : N < n
    · have d2 : decide ((N : Int) < (n : Int)) = true := decide_eq_true (by omega)
      have d3 : decide (N < n) = true := decide_eq_true c2
      rw [if_neg (by omega)] at hR
      subst hR
      clear hcall hp hb hN
      go_enter Try.func11, Try.ntmps11
      go_wp2
      go_ret
      exact ⟨_, rfl, RI.nil _ _, Below.refl _ _⟩
    · have d2 : decide ((N : Int) < (n : Int)) = false := decide_eq_false (by omega)
      have d3 : decide (N < n) = false := decide_eq_false c2
      rw [if_pos (by omega), Int.toNat_natCast] at hR
      have hc := hcall n W hp hb (by omega)
      rw [hR] at hc
      have HC := Aside0.mk hc
      clear hcall hp hb hN hc hR
      go_enter Try.func11, Try.ntmps11
      go_wp2_with (go_at_call 38; (with_reducible refine HC.out.mono ?_); rintro e w2 ⟨v, rfl, hr, hb⟩; have HR := Aside0.mk hr; have HB := Aside0.mk hb; clear hr hb)
      go_ret
      exact ⟨v, rfl, HR.out, HB.out⟩
theorem endsF_len (xs : List ST) (bs : List Int) : ∀ (n at_ : Nat) (now : List Bool) (out : List Int), (endsF xs bs n at_ now out).length ≤ out.length + n
  | 0, at_, now, out => Nat.le_refl _
  | n + 1, at_, now, out => by
    rw [endsF]
    split
    · refine Nat.le_trans (endsF_len xs bs n (at_ + 1) _ _) ?_
      split
      · rw [List.length_append]; simp; omega
      · omega
    · omega
theorem endsP_len (xs : List ST) (bs : List Int) (i : Nat) : (endsP xs bs i).length ≤ bs.length + 1 := by
  unfold endsP
  refine Nat.le_trans (endsF_len xs bs _ _ _ _) ?_
  split <;> simp <;> omega
/-- The first match from a place on. -/
def searchF (xs : List ST) (bs : List Int) : Nat → Nat → Int × Int × Bool
  | 0, at_ => (0, 0, false)
  | n + 1, at_ => if (endsP xs bs at_).length = 0 then searchF xs bs n (at_ + 1) else ((at_ : Int), (endsP xs bs at_).getD ((endsP xs bs at_).length - 1) 0, true)
def searchI (xs : List ST) (bs : List Int) (at_ : Int) : Int × Int × Bool := if at_ < 0 then (0, 0, false) else searchF xs bs (bs.length + 1 - at_.toNat) at_.toNat
set_option maxHeartbeats 8000000 in
set_option maxRecDepth 100000 in
theorem Search.calls (pp : Nat) (s : ByteArray) (z : Int) (xs : List ST) (bk : Option Nat) (A : Option Addr) (c : Nat) (bs : List Int) (at_ : Int) (W : World) (hp : PT W pp s z xs bk) (hb : BY W A bs) :
    Calls Try.prog 17 #[.pointer (some ⟨pp, 0, none⟩), .slice A bs.length c, .int .i64 at_] W fun e w' => e = .returned (.tuple #[.int .i64 (searchI xs bs at_).1, .int .i64 (searchI xs bs at_).2.1, .bool (searchI xs bs at_).2.2]) ∧ Below W.heap.size W w' := by
  obtain ⟨R, hR⟩ : ∃ R, searchI xs bs at_ = R := ⟨_, rfl⟩
  rw [hR]
  unfold searchI at hR
  have hcall := fun from_ w (hb9 : Below W.heap.size W w) => ends.callsB pp s z xs bk A c bs from_ w (hp.call hb9) (hb.call hb9)
  obtain ⟨N, hN⟩ : ∃ N, bs.length = N := ⟨_, rfl⟩
  have hNl := hb.len
  have HNN := Aside0.mk hN
  simp only [hN] at hR hcall hNl ⊢
  by_cases c1 : at_ < 0
  · have d1 : decide (at_ < 0) = true := decide_eq_true c1
    rw [if_pos c1] at hR
    subst hR
    clear hcall hp hb hN
    go_enter Try.func17, Try.ntmps17
    go_wp2
    (try simp only [Exit.inBlock, Exit.then])
    refine bodyPost_ret (results_tmp3 rfl _ _ _) rfl ?_
    exact ⟨rfl, Below.refl _ _⟩
  · obtain ⟨n0, rfl⟩ : ∃ n : Nat, at_ = (n : Int) := ⟨at_.toNat, by omega⟩
    have d1 : decide ((n0 : Int) < 0) = false := decide_eq_false c1
    rw [if_neg c1, Int.toNat_natCast] at hR
    have HR := Aside0.mk hR
    have HC := Aside0.mk hcall
    have HN1 : Aside0 (n0 + (N + 1 - n0) = N + 1 ∨ N < n0 ∧ N + 1 - n0 = 0) := ⟨by omega⟩
    clear hcall hp hb hN hR
    go_enter Try.func17, Try.ntmps17
    go_wp2
    go_loopg [2] (N + 1 - n0) (fun kq v2 w' => ∃ i : Nat, v2 = .int .i64 (i : Int) ∧ (i + kq = N + 1 ∨ N < i ∧ kq = 0) ∧ Aside0 (searchF xs bs kq i = R) ∧ Aside0 (Below W.heap.size W w'))
    case atStart => exact ⟨n0, rfl, HN1.out, HR, ⟨Below.refl _ _⟩⟩
    case round =>
      clear HR HN1
      obtain ⟨i, rfl, hin, HR, HB⟩ := hrel
      cases gk with
      | zero =>
        have e1 : decide ((i : Int) ≤ (N : Int)) = false := decide_eq_false (by omega)
        have e2 : decide (i ≤ N) = false := decide_eq_false (by omega)
        have hr := HR.out
        rw [searchF] at hr
        subst hr
        clear HR hin
        go_wp2
        (try simp only [Exit.inBlock, Exit.then])
        refine bodyPost_ret (results_tmp3 rfl _ _ _) rfl ?_
        exact ⟨rfl, HB.out⟩
      | succ q =>
        have hi : i ≤ N := by omega
        have e1 : decide ((i : Int) ≤ (N : Int)) = true := decide_eq_true (by omega)
        have e2 : decide (i ≤ N) = true := decide_eq_true hi
        have wi : IntKind.i64.wrap ((i : Int) + 1) = (i : Int) + 1 := by rw [IntKind.wrap_i64]; omega
        have hr := HR.out
        rw [searchF] at hr
        obtain ⟨l, hl⟩ : ∃ l, endsP xs bs i = l := ⟨_, rfl⟩
        have hc := fun w h => HC.out i w h hi
        rw [hl] at hr hc
        have HC2 := Aside0.mk hc
        have hiq : i + 1 + q = N + 1 := by omega
        obtain ⟨L, hL⟩ : ∃ L, l.length = L := ⟨_, rfl⟩
        have HL := Aside0.mk hL
        rw [hL] at hr
        by_cases c3 : L = 0
        · rw [if_pos c3] at hr
          have HR2 := Aside0.mk hr
          have f1 : decide ((0 : Int) < (L : Int)) = false := decide_eq_false (by omega)
          have f2 : decide (0 < L) = false := decide_eq_false (by omega)
          clear hr hc hl hL HR c3
          go_wp2_with (go_at_call 38; (with_reducible refine (HC2.out _ HB.out).mono ?_); rintro e w2 ⟨v, rfl, hr, hb⟩; obtain ⟨ge, ce, hv, _, _⟩ := hr.at_; rw [HL.out] at hv; subst hv; have HB2 := Aside0.mk (HB.out.trans (hb.mono HB.out.size)); clear hr hb)
          go_roundg q
          case measure => omega
          case rel => exact ⟨i + 1, rfl, .inl hiq, HR2, HB2⟩
        · rw [if_neg c3] at hr
          subst hr
          have f1 : decide ((0 : Int) < (L : Int)) = true := decide_eq_true (by omega)
          have f2 : decide (0 < L) = true := decide_eq_true (by omega)
          have f3 : (0 : Int) ≤ (L : Int) - 1 := by omega
          have f4 : (L : Int) - 1 < (L : Int) := by omega
          have HP : Aside0 (0 < L) := ⟨by omega⟩
          obtain ⟨K, rfl⟩ : ∃ K, L = K + 1 := ⟨L - 1, by omega⟩
          have hKb : K + 1 ≤ N + 1 := by rw [← hL, ← hl, ← HNN.out]; exact endsP_len xs bs i
          have u0 : IntKind.i64.wrap (K : Int) = (K : Int) := by rw [IntKind.wrap_i64]; omega
          have u1 : IntKind.i64.wrap ((K : Int) + 1 - 1) = (K : Int) := by rw [IntKind.wrap_i64]; omega
          have u2 : IntKind.i64.wrap (((K + 1 : Nat) : Int) - 1) = (K : Int) := by rw [IntKind.wrap_i64]; omega
          have u3 : (0 : Int) ≤ (K : Int) := by omega
          have u4 : (K : Int) < (K : Int) + 1 := by omega
          clear hc hl hL HR c3 hKb
          go_wp2_with (go_at_call 38; (with_reducible refine (HC2.out _ HB.out).mono ?_); rintro e w2 ⟨v, rfl, hr, hb⟩; obtain ⟨ge, ce, hv, _, hg⟩ := hr.at_; obtain ⟨gb, hgb, kk⟩ := hg K (by rw [HL.out]; omega); rw [HL.out] at hv; subst hv; subst hgb; have HB2 := Aside0.mk (HB.out.trans (hb.mono HB.out.size)); clear hr hb hg)
          (try dsimp only [Act.put])
          go_quiet (fail)
          have HB3 := Aside0.mk (HB2.out.trans ((below_drewN w2 nq).mono HB2.out.size))
          go_wp2
          (try simp only [Exit.inBlock, Exit.then])
          refine bodyPost_ret (results_tmp3 rfl _ _ _) rfl ?_
          exact ⟨rfl, HB3.out⟩
end Go.Proofs.Ytclgnefeankbgaa.M
namespace Go.Proofs.Ytclgnefeankbgaa.M
open Go Go.RowKit Go.Proofs.YtclgnefeankbgaaW.PrintWords Go.Proofs.YtclgnefeankbgaaW.PrintLast Go.Proofs.YtclgnefeankbgaaW.PrintMore Hand
attribute [local go_sem] Oper.semAt_some max2_int min2_int max_two min_two max_three min_three max_four min_four
set_option linter.unusedVariables false
set_option linter.unusedSimpArgs false
def kpair : Kd (Int × Int) := Kd.pair (Kd.int .i64) (Kd.int .i64)
/-- A row of pairs made anew. -/
def RP (w : World) (base : Nat) (v : Value) (l : List (Int × Int)) : Prop := Kd.R kpair 51 w base (fun _ => True) v l
theorem RP.nil (w : World) (base : Nat) : RP w base (.slice none 0 0) [] := Kd.R_nil _ _ _ _ _
theorem RP.call {w w' : World} {base : Nat} {v : Value} {l : List (Int × Int)} (h : RP w base v l) (hb : Below w.heap.size w w') : RP w' base v l := Kd.R_below h hb
theorem RP.at_ {w : World} {base : Nat} {v : Value} {l : List (Int × Int)} (h : RP w base v l) : ∃ (g : Option Nat) (c : Nat), v = .slice (g.map fun g => ⟨g, 0, none⟩) l.length c ∧ (∀ k, g = some k → base ≤ k) ∧ ∀ i, i < l.length → ∃ b, g = some b ∧ w.cell? ⟨b, i * 2, none⟩ = some (.int .i64 (l.getD i (0, 0)).1) ∧ w.cell? ⟨b, i * 2 + 1, none⟩ = some (.int .i64 (l.getD i (0, 0)).2) := by
  obtain ⟨inner, hin⟩ := Kd.R_own h
  obtain ⟨A, c, hv, hl, hC⟩ := Kd.R_reads h
  rcases hin.2 with ⟨hn, h0⟩ | ⟨g, cap, cur, hv2, hg, _⟩
  · refine ⟨none, 0, ?_, (fun k hk => by cases hk), (fun i hi => by omega)⟩
    rw [hn, h0]
    rfl
  · refine ⟨some g, cap, hv2, (fun k hk => by cases hk; exact hg), fun i hi => ⟨g, rfl, ?_⟩⟩
    rw [hv] at hv2
    cases hv2
    obtain ⟨ad, cs, h1, h2, h3, h4⟩ := Kd.C_get hC (0, 0) (i : Int) (by omega) (by omega)
    cases h1
    obtain ⟨c0, c1, he, h5, h6⟩ := h3
    have h5' : c0 = [.int .i64 (l.getD i (0, 0)).1] := h5
    have h6' : c1 = [.int .i64 (l.getD i (0, 0)).2] := h6
    rw [h5', h6'] at he
    subst he
    have ea : ∀ j, ((⟨g, 0, none⟩ : Addr).add j) = ⟨g, j, none⟩ := fun j => by unfold Addr.add; split <;> simp_all
    have a0 := h4 0 _ rfl
    have a1 := h4 1 _ rfl
    have e0 : (i : Int).toNat * kpair.sz + 0 = i * 2 := by show i * 2 + 0 = i * 2; omega
    have e1 : (i : Int).toNat * kpair.sz + 1 = i * 2 + 1 := by show i * 2 + 1 = i * 2 + 1; omega
    rw [e0, ea] at a0
    rw [e1, ea] at a1
    exact ⟨a0, a1⟩
theorem pair_info : (Try.prog.info? 51).map (fun i => (i.zero, i.size, i.bytes)) = some (some (.agg #[.int .i64 0, .int .i64 0]), 2, 16) := by kernel_rfl
section
variable {ops : Array Oper} {rest : List Oper} {o : Oper} {a : Act} {Q : Exit → Act → World → Prop} {w : World}
theorem build_pr (hg : o.guard = none) (x y : Operand) (hop : o.op = .build 51 #[(0, x), (1, y)]) (p q : Int) (hx : a.eval x = .int .i64 p) (hy : a.eval y = .int .i64 q) (hK : wpList Try.prog ops Q rest (a.put o.dst (.agg #[.int .i64 p, .int .i64 q])) w) : wpList Try.prog ops Q (o :: rest) a w := by
  have hb : Try.prog.built 51 [(0, .int .i64 p), (1, .int .i64 q)] = some #[.int .i64 p, .int .i64 q] := by kernel_rfl
  refine wpList_build hg 51 _ hop ?_ ?_
  · simp only [List.map_toArray, List.map_cons, List.map_nil, hx, hy, hb]; rfl
  · simp only [List.map_toArray, List.map_cons, List.map_nil, hx, hy, hb, Option.getD_some]; exact hK
end
/-- What a found match is. -/
theorem searchF_in (xs : List ST) (bs : List Int) : ∀ (n at_ : Nat) (p q : Int), n + at_ ≤ bs.length + 1 → searchF xs bs n at_ = (p, q, true) → ∃ i j : Nat, p = (i : Int) ∧ q = (j : Int) ∧ at_ ≤ i ∧ i ≤ j ∧ j ≤ bs.length ∧ 0 < (endsP xs bs i).length ∧ (endsP xs bs i).getD ((endsP xs bs i).length - 1) 0 = (j : Int) ∧ ∀ k, at_ ≤ k → k < i → endsP xs bs k = []
  | 0, at_, p, q, hn, h => by cases h
  | n + 1, at_, p, q, hn, h => by
    rw [searchF] at h
    by_cases c : (endsP xs bs at_).length = 0
    · rw [if_pos c] at h
      obtain ⟨i, j, h1, h2, h3, h4, h5, h6, h7, h8⟩ := searchF_in xs bs n (at_ + 1) p q (by omega) h
      refine ⟨i, j, h1, h2, by omega, h4, h5, h6, h7, fun k hk hki => ?_⟩
      by_cases e : k = at_
      · subst e; exact List.eq_nil_of_length_eq_zero c
      · exact h8 k (by omega) hki
    · rw [if_neg c] at h
      simp only [Prod.mk.injEq, and_true] at h
      obtain ⟨h1, h2⟩ := h
      have hl : (endsP xs bs at_).length - 1 < (endsP xs bs at_).length := by omega
      have hm : (endsP xs bs at_).getD ((endsP xs bs at_).length - 1) 0 ∈ endsP xs bs at_ := by
        rw [List.getD_eq_getElem?_getD, List.getElem?_eq_getElem hl]
        exact List.getElem_mem _
      have hin := endsP_in xs bs at_ (by omega) _ hm
      rw [h2] at hin
      obtain ⟨j, rfl⟩ : ∃ j : Nat, q = (j : Int) := ⟨q.toNat, by omega⟩
      exact ⟨at_, j, h1.symm, rfl, Nat.le_refl _, by omega, by omega, by omega, h2, fun k hk hki => by omega⟩
theorem searchF_none (xs : List ST) (bs : List Int) : ∀ (n at_ : Nat) (p q : Int), searchF xs bs n at_ = (p, q, false) → (p = 0 ∧ q = 0) ∧ ∀ k, at_ ≤ k → k < at_ + n → endsP xs bs k = []
  | 0, at_, p, q, h => by
    rw [searchF] at h
    cases h
    exact ⟨⟨rfl, rfl⟩, fun k h1 h2 => by omega⟩
  | n + 1, at_, p, q, h => by
    rw [searchF] at h
    by_cases c : (endsP xs bs at_).length = 0
    · rw [if_pos c] at h
      obtain ⟨h1, h2⟩ := searchF_none xs bs n (at_ + 1) p q h
      refine ⟨h1, fun k hk hki => ?_⟩
      by_cases e : k = at_
      · subst e; exact List.eq_nil_of_length_eq_zero c
      · exact h2 k (by omega) (by omega)
    · rw [if_neg c] at h
      cases h
/-- All matches, one behind the other. -/
def allF (xs : List ST) (bs : List Int) : Nat → Nat → List (Int × Int) → List (Int × Int)
  | 0, _, out => out
  | n + 1, at_, out => match searchF xs bs (bs.length + 1 - at_) at_ with
    | (p, q, is) =>
      if is = true then
        (if p = q then
          (if 0 < out.length ∧ (out.getD (out.length - 1) (0, 0)).2 = p then allF xs bs n (q.toNat + 1) out else allF xs bs n (q.toNat + 1) (out ++ [(p, q)]))
        else allF xs bs n q.toNat (out ++ [(p, q)]))
      else out
def allP (xs : List ST) (bs : List Int) : List (Int × Int) := allF xs bs (bs.length + 2) 0 []
/-- What All has. -/
structure AW (W w : World) (out : List (Int × Int)) (v : Value) : Prop where
  row : RP w W.heap.size v out
  hb : Below W.heap.size W w
theorem AW.call {W w w' : World} {out : List (Int × Int)} {v : Value} (h : AW W w out v) (hb : Below w.heap.size w w') : AW W w' out v := ⟨h.row.call hb, h.hb.trans (hb.mono h.hb.size)⟩
set_option maxHeartbeats 16000000 in
set_option maxRecDepth 100000 in
theorem All.calls (pp : Nat) (s : ByteArray) (z : Int) (xs : List ST) (bk : Option Nat) (A : Option Addr) (c : Nat) (bs : List Int) (W : World) (hp : PT W pp s z xs bk) (hb : BY W A bs) :
    Calls Try.prog 24 #[.pointer (some ⟨pp, 0, none⟩), .slice A bs.length c] W fun e w' => ∃ v, e = .returned v ∧ RP w' W.heap.size v (allP xs bs) ∧ Below W.heap.size W w' := by
  obtain ⟨R, hR⟩ : ∃ R, allP xs bs = R := ⟨_, rfl⟩
  rw [hR]
  unfold allP at hR
  have hcall := fun (at_ : Nat) w (hb9 : Below W.heap.size W w) => Search.calls pp s z xs bk A c bs (at_ : Int) w (hp.call hb9) (hb.call hb9)
  have hsi : ∀ at_ : Nat, searchI xs bs (at_ : Int) = searchF xs bs (bs.length + 1 - at_) at_ := fun at_ => by
    unfold searchI
    rw [if_neg (by omega), Int.toNat_natCast]
  simp only [hsi] at hcall
  have hin := fun at_ p q (h : at_ ≤ bs.length + 1) => searchF_in xs bs (bs.length + 1 - at_) at_ p q (by omega)
  obtain ⟨N, hN⟩ : ∃ N, bs.length = N := ⟨_, rfl⟩
  have hNl := hb.len
  simp only [hN] at hR hcall hNl hin ⊢
  have HNN := Aside0.mk hN
  have HR := Aside0.mk hR
  have HC := Aside0.mk hcall
  have HIN := Aside0.mk hin
  clear hcall hp hb hN hR hsi hin
  go_enter Try.func24, Try.ntmps24
  go_wp2
  go_loopg [5, 6] (N + 2) (fun kq v5 v6 w' => ∃ (at_ : Nat) (g : Option Nat) (co L : Nat) (out : List (Int × Int)), v5 = .slice (g.map fun g => ⟨g, 0, none⟩) L co ∧ v6 = .int .i64 (at_ : Int) ∧ N + 2 ≤ at_ + kq ∧ at_ ≤ N + 1 ∧ L ≤ at_ ∧ Aside0 (out.length = L) ∧ Aside0 (allF xs bs kq at_ out = R) ∧ Aside0 (AW W w' out (.slice (g.map fun g => ⟨g, 0, none⟩) L co)))
  case atStart => exact ⟨0, none, 0, 0, [], rfl, rfl, by omega, by omega, Nat.le_refl _, ⟨rfl⟩, HR, ⟨⟨RP.nil _ _, Below.refl _ _⟩⟩⟩
  case round =>
    clear HR
    obtain ⟨at_, g, co, L, out, rfl, rfl, hkq, ha, hol, HL, HR, HA⟩ := hrel
    cases gk with
    | zero => exact absurd hkq (by omega)
    | succ n =>
      have hr := HR.out
      rw [allF, HNN.out] at hr
      obtain ⟨⟨p, q, is⟩, hS⟩ : ∃ S, searchF xs bs (N + 1 - at_) at_ = S := ⟨_, rfl⟩
      have hc := HC.out at_
      rw [hS] at hr hc
      simp only at hr hc
      have HC2 := Aside0.mk hc
      cases is with
      | false =>
        rw [if_neg (by decide)] at hr
        subst hr
        clear hc hS HR hol
        go_wp2_with (go_at_call 17; (with_reducible refine (HC2.out _ HA.out.hb).mono ?_); rintro e w2 ⟨rfl, hb⟩; have HA2 := Aside0.mk (HA.out.call hb); clear hb)
        go_ret
        exact ⟨_, rfl, HA2.out.row, HA2.out.hb⟩
      | true =>
        rw [if_pos rfl] at hr
        obtain ⟨i, j, rfl, rfl, h1, h2, h3, _⟩ := HIN.out at_ p q ha hS
        rw [Int.toNat_natCast] at hr
        have hLL : (L + 1) * 16 ≤ 140737488355328 := by omega
        have HLL := Aside0.mk hLL
        have HAT := Aside0.mk (And.intro (And.intro hkq ha) (And.intro hol (And.intro h1 (And.intro h2 h3))))
        by_cases cij : i = j
        · subst cij
          rw [if_pos rfl] at hr
          have wi : IntKind.i64.wrap ((i : Int) + 1) = (i : Int) + 1 := by rw [IntKind.wrap_i64]; omega
          by_cases cL : L = 0
          · rw [HL.out, if_neg (fun h => by omega)] at hr
            have HR2 := Aside0.mk hr
            have f1 : decide ((0 : Int) < (L : Int)) = false := decide_eq_false (by omega)
            have f2 : decide (0 < L) = false := decide_eq_false (by omega)
            clear hc hS HR hol hkq ha h1 h2 h3 hr hLL cL
            go_wp2_with (first
              | ((with_reducible refine gate_builtin (b := .append) (xs := #[.tmp 47, .tmp 51]) rfl ?_); at_builtin; refine Kd.R_append kpair (w0 := W) W.heap.size rfl (.tmp 47) (.tmp 51) 45 51 (.agg #[.int .i64 0, .int .i64 0]) 16 rfl Try.underlying45 pair_info rfl (by decide) (by omega) _ out ((i : Int), (i : Int)) [.int .i64 (i : Int), .int .i64 (i : Int)] (fun _ => True) (fun _ => False) rfl rfl ⟨_, _, rfl, rfl, rfl⟩ (fun _ hk => hk.elim) (fun _ _ => trivial) HA2.out.row HA2.out.hb HA2.out.hb.size ?aL ?_; (case aL => rw [HL.out]; exact HLL.out); intro v1 w4 ho hb hg hat; obtain ⟨g9, c9, hv9, _, _⟩ := RP.at_ ho; rw [List.length_append, HL.out] at hv9; have hv10 : v1 = .slice (g9.map fun g => ⟨g, 0, none⟩) (L + 1) c9 := hv9; subst hv10; clear hv9; have HA4 := Aside0.mk (AW.mk ho hb); clear ho hb hg hat)
              | ((with_reducible refine gate_build (t := 51) rfl ?_); refine build_pr rfl _ _ rfl (i : Int) (i : Int) rfl rfl ?_)
              | (go_at_call 17; (with_reducible refine (HC2.out _ HA.out.hb).mono ?_); rintro e w2 ⟨rfl, hb⟩; have HA2 := Aside0.mk (HA.out.call hb); clear hb))
            go_roundg n
            case measure => omega
            case rel => exact ⟨i + 1, g9, c9, L + 1, out ++ [((i : Int), (i : Int))], rfl, rfl, by have := HAT.out; omega, by have := HAT.out; omega, by have := HAT.out; omega, ⟨by rw [List.length_append, HL.out]; rfl⟩, HR2, HA4⟩
          · obtain ⟨K, rfl⟩ : ∃ K, L = K + 1 := ⟨L - 1, by omega⟩
            have f1 : decide ((0 : Int) < ((K + 1 : Nat) : Int)) = true := decide_eq_true (by omega)
            have f2 : decide ((0 : Int) < (K : Int) + 1) = true := decide_eq_true (by omega)
            have f3 : decide (0 < K + 1) = true := decide_eq_true (by omega)
            have u0 : IntKind.i64.wrap (K : Int) = (K : Int) := by rw [IntKind.wrap_i64]; omega
            have u1 : IntKind.i64.wrap ((K : Int) + 1 - 1) = (K : Int) := by rw [IntKind.wrap_i64]; omega
            have u2 : IntKind.i64.wrap (((K + 1 : Nat) : Int) - 1) = (K : Int) := by rw [IntKind.wrap_i64]; omega
            have u3 : (0 : Int) ≤ (K : Int) := by omega
            have u4 : (K : Int) < (K : Int) + 1 := by omega
            obtain ⟨y, hy⟩ : ∃ y, (out.getD K (0, 0)).2 = y := ⟨_, rfl⟩
            have HY := Aside0.mk hy
            have e9 : K + 1 - 1 = K := rfl
            rw [HL.out, e9, hy] at hr
            obtain ⟨g2, c2, hv2, _, hat⟩ := HA.out.row.at_
            have hg2 := hat K (by have := HL.out; omega)
            obtain ⟨gb, hgb, _, _⟩ := hg2
            have hgg : g = some gb := by
              injection hv2 with e1 _ _
              rw [hgb] at e1
              cases g with
              | none => cases e1
              | some g => simp at e1; rw [e1]
            subst hgg
            have hkk : ∀ w, AW W w out (.slice ((some gb).map fun g => ⟨g, 0, none⟩) (K + 1) co) → w.cell? ⟨gb, K * 2 + 1, none⟩ = some (.int .i64 y) := fun w hw => by
              obtain ⟨g3, c3, hv3, _, hat3⟩ := hw.row.at_
              obtain ⟨gb3, hgb3, _, hk3⟩ := hat3 K (by have := HL.out; omega)
              rw [hgb3] at hv3
              injection hv3 with e1 _ _
              have e2 : gb = gb3 := by simpa using e1
              subst e2
              rw [hy] at hk3
              exact hk3
            have HKK := Aside0.mk hkk
            by_cases cy : y = (i : Int)
            · rw [if_pos ⟨by omega, cy⟩] at hr
              have HR2 := Aside0.mk hr
              have y1 : (y == (i : Int)) = true := beq_iff_eq.2 cy
              clear hc hS HR hol hkq ha h1 h2 h3 hr hLL cL hv2 hat hgb hkk e9 hy cy
              go_wp2_with (go_at_call 17; (with_reducible refine (HC2.out _ HA.out.hb).mono ?_); rintro e w2 ⟨rfl, hb⟩; have HA2 := Aside0.mk (HA.out.call hb); have kk := HKK.out w2 HA2.out; clear hb)
              go_roundg n
              case measure => omega
              case rel => exact ⟨i + 1, some gb, co, K + 1, out, rfl, rfl, by have := HAT.out; omega, by have := HAT.out; omega, by have := HAT.out; omega, HL, HR2, HA2⟩
            · rw [if_neg (fun h => cy h.2)] at hr
              have HR2 := Aside0.mk hr
              have y1 : (y == (i : Int)) = false := beq_eq_false_iff_ne.2 cy
              clear hc hS HR hol hkq ha h1 h2 h3 hr hLL cL hv2 hat hgb hkk e9 hy cy
              go_wp2_with (first
                | ((with_reducible refine gate_builtin (b := .append) (xs := #[.tmp 47, .tmp 51]) rfl ?_); at_builtin; refine Kd.R_append kpair (w0 := W) W.heap.size rfl (.tmp 47) (.tmp 51) 45 51 (.agg #[.int .i64 0, .int .i64 0]) 16 rfl Try.underlying45 pair_info rfl (by decide) (by omega) _ out ((i : Int), (i : Int)) [.int .i64 (i : Int), .int .i64 (i : Int)] (fun _ => True) (fun _ => False) rfl rfl ⟨_, _, rfl, rfl, rfl⟩ (fun _ hk => hk.elim) (fun _ _ => trivial) HA2.out.row HA2.out.hb HA2.out.hb.size ?aL ?_; (case aL => rw [HL.out]; exact HLL.out); intro v1 w4 ho hb hg hat; obtain ⟨g9, c9, hv9, _, _⟩ := RP.at_ ho; rw [List.length_append, HL.out] at hv9; have hv10 : v1 = .slice (g9.map fun g => ⟨g, 0, none⟩) ((K + 1) + 1) c9 := hv9; subst hv10; clear hv9; have HA4 := Aside0.mk (AW.mk ho hb); clear ho hb hg hat)
                | ((with_reducible refine gate_build (t := 51) rfl ?_); refine build_pr rfl _ _ rfl (i : Int) (i : Int) rfl rfl ?_)
                | (go_at_call 17; (with_reducible refine (HC2.out _ HA.out.hb).mono ?_); rintro e w2 ⟨rfl, hb⟩; have HA2 := Aside0.mk (HA.out.call hb); have kk := HKK.out w2 HA2.out; clear hb))
              go_roundg n
              case measure => omega
              case rel => exact ⟨i + 1, g9, c9, (K + 1) + 1, out ++ [((i : Int), (i : Int))], rfl, rfl, by have := HAT.out; omega, by have := HAT.out; omega, by have := HAT.out; omega, ⟨by rw [List.length_append, HL.out]; rfl⟩, HR2, HA4⟩
        · rw [if_neg (by omega)] at hr
          have HR2 := Aside0.mk hr
          have e1 : ((i : Int) == (j : Int)) = false := beq_eq_false_iff_ne.2 (by omega)
          have e2 : (i == j) = false := beq_eq_false_iff_ne.2 cij
          clear hc hS HR hol hkq ha h1 h2 h3 hr hLL
          go_wp2_with (first
            | ((with_reducible refine gate_builtin (b := .append) (xs := #[.tmp 47, .tmp 51]) rfl ?_); at_builtin; refine Kd.R_append kpair (w0 := W) W.heap.size rfl (.tmp 47) (.tmp 51) 45 51 (.agg #[.int .i64 0, .int .i64 0]) 16 rfl Try.underlying45 pair_info rfl (by decide) (by omega) _ out ((i : Int), (j : Int)) [.int .i64 (i : Int), .int .i64 (j : Int)] (fun _ => True) (fun _ => False) rfl rfl ⟨_, _, rfl, rfl, rfl⟩ (fun _ hk => hk.elim) (fun _ _ => trivial) HA2.out.row HA2.out.hb HA2.out.hb.size ?aL ?_; (case aL => rw [HL.out]; exact HLL.out); intro v1 w4 ho hb hg hat; obtain ⟨g9, c9, hv9, _, _⟩ := RP.at_ ho; rw [List.length_append, HL.out] at hv9; have hv10 : v1 = .slice (g9.map fun g => ⟨g, 0, none⟩) (L + 1) c9 := hv9; subst hv10; clear hv9; have HA4 := Aside0.mk (AW.mk ho hb); clear ho hb hg hat)
            | ((with_reducible refine gate_build (t := 51) rfl ?_); refine build_pr rfl _ _ rfl (i : Int) (j : Int) rfl rfl ?_)
            | (go_at_call 17; (with_reducible refine (HC2.out _ HA.out.hb).mono ?_); rintro e w2 ⟨rfl, hb⟩; have HA2 := Aside0.mk (HA.out.call hb); clear hb))
          go_roundg n
          case measure => omega
          case rel => exact ⟨j, g9, c9, L + 1, out ++ [((i : Int), (j : Int))], rfl, rfl, by have := HAT.out; omega, by have := HAT.out; omega, by have := HAT.out; omega, ⟨by rw [List.length_append, HL.out]; rfl⟩, HR2, HA4⟩
end Go.Proofs.Ytclgnefeankbgaa.M
namespace Go.Proofs.Ytclgnefeankbgaa.M
open Go Go.RowKit Go.Proofs.YtclgnefeankbgaaW.PrintWords Go.Proofs.YtclgnefeankbgaaW.PrintLast Go.Proofs.YtclgnefeankbgaaW.PrintMore Hand
attribute [local go_sem] Oper.semAt_some max2_int min2_int max_two min_two max_three min_three max_four min_four
set_option linter.unusedVariables false
set_option linter.unusedSimpArgs false
def NnF (f : List ST → List ST) : Prop := ∀ xs, Nn xs → Nn (f xs)
theorem nn_app {xs : List ST} (h : Nn xs) (op : Int) (c : C4) (a b : Int) (h0 : 0 ≤ op ∧ op ≤ 5) (h1 : 0 ≤ a) (h2 : 0 ≤ b) : Nn (xs ++ [⟨op, c, a, b⟩]) := fun s hs => by
  rcases List.mem_append.1 hs with hs | hs
  · exact h s hs
  · have : s = ⟨op, c, a, b⟩ := by simpa using hs
    subst this
    exact ⟨h0, h1, h2⟩
theorem nn_modify {f : ST → ST} (hf : ∀ s, ((0 ≤ s.op ∧ s.op ≤ 5) ∧ 0 ≤ s.a ∧ 0 ≤ s.b) → ((0 ≤ (f s).op ∧ (f s).op ≤ 5) ∧ 0 ≤ (f s).a ∧ 0 ≤ (f s).b)) : ∀ (xs : List ST) (i : Nat), Nn xs → Nn (xs.modify i f)
  | [], i, h => by
    cases i <;> exact h
  | x :: xs, 0, h => fun s hs => by
    have hs' : s ∈ f x :: xs := hs
    rcases List.mem_cons.1 hs' with hs | hs
    · subst hs; exact hf x (h x List.mem_cons_self)
    · exact h s (List.mem_cons_of_mem _ hs)
  | x :: xs, i + 1, h => fun s hs => by
    have hs' : s ∈ x :: xs.modify i f := hs
    rcases List.mem_cons.1 hs' with hs | hs
    · subst hs; exact h _ List.mem_cons_self
    · exact nn_modify hf xs i (fun s hs => h s (List.mem_cons_of_mem _ hs)) s hs
theorem nn_setA {xs : List ST} (h : Nn xs) (i : Nat) {n : Int} (hn : 0 ≤ n) : Nn (setA xs i n) := nn_modify (f := fun s => { s with a := n }) (fun s hs => ⟨hs.1, hn, hs.2.2⟩) xs i h
theorem nn_setB {xs : List ST} (h : Nn xs) (i : Nat) {n : Int} (hn : 0 ≤ n) : Nn (setB xs i n) := nn_modify (f := fun s => { s with b := n }) (fun s hs => ⟨hs.1, hs.2.1, hn⟩) xs i h
theorem nn_split {xs : List ST} (h : Nn xs) : Nn (splitA xs) := nn_setA (nn_app h 3 C4.nil 0 0 (by omega) (by omega) (by omega)) _ (by omega)
theorem nn_take {xs : List ST} (h : Nn xs) (n : Nat) : Nn (xs.take n) := fun s hs => h s (List.mem_of_mem_take hs)
theorem nn_patchA : ∀ (l : List Nat) (xs : List ST), Nn xs → Nn (patchA l xs)
  | [], xs, h => h
  | k :: l, xs, h => nn_patchA l _ (nn_setA h k (by omega))
theorem nn_patchB : ∀ (l : List Nat) (xs : List ST), Nn xs → Nn (patchB l xs)
  | [], xs, h => h
  | k :: l, xs, h => nn_patchB l _ (nn_setB h k (by omega))
theorem nn_iter {f : List ST → List ST} (hf : NnF f) : ∀ (n : Nat), NnF (iterC f n)
  | 0 => fun xs h => h
  | n + 1 => fun xs h => nn_iter hf n _ (hf _ h)
theorem nn_opt {f : List ST → List ST} (hf : NnF f) : ∀ (n : Nat) (e : List Nat) (xs : List ST), Nn xs → Nn (optC f n e xs).2
  | 0, e, xs, h => h
  | n + 1, e, xs, h => by
    unfold optC
    split
    · exact nn_take (hf _ (nn_split h)) _
    · exact nn_opt hf n _ _ (hf _ (nn_split h))
theorem nn_alt : ∀ (fs : List (List ST → List ST)) (e : List Nat) (xs : List ST), (∀ f ∈ fs, NnF f) → Nn xs → Nn (altC fs e xs).2
  | [], e, xs, hf, h => h
  | [f], e, xs, hf, h => by
    rw [altC]
    exact hf f (by simp) _ h
  | f :: g :: fs, e, xs, hf, h => by
    rw [altC]
    exact nn_alt (g :: fs) _ _ (fun f' hf' => hf f' (List.mem_cons_of_mem _ hf')) (nn_setB (nn_app (hf f (by simp) _ (nn_split h)) 4 C4.nil 0 0 (by omega) (by omega) (by omega)) _ (by omega))
theorem nn_rep {f : List ST → List ST} (hf : NnF f) (le mo : Int) : NnF (repC le mo f) := fun xs h => by
  unfold repC
  split
  · split
    · exact nn_take (hf _ (nn_split h)) _
    · exact nn_setB (nn_app (hf _ (nn_split h)) 4 C4.nil _ 0 (by omega) (by omega) (by omega)) _ (by omega)
  · have hi := nn_iter hf (le - 1).toNat xs h
    split
    · split
      · exact nn_setB (nn_app (hf _ hi) 3 C4.nil _ 0 (by omega) (by omega) (by omega)) _ (by omega)
      · exact hf _ hi
    · exact nn_patchB _ _ (nn_opt hf _ _ _ (nn_iter hf le.toNat xs h))
theorem nn_fold : ∀ (fs : List (List ST → List ST)) (xs : List ST), (∀ f ∈ fs, NnF f) → Nn xs → Nn (fs.foldl (fun xs f => f xs) xs)
  | [], xs, hf, h => h
  | f :: fs, xs, hf, h => nn_fold fs (f xs) (fun f' hf' => hf f' (List.mem_cons_of_mem _ hf')) (hf f List.mem_cons_self _ h)
theorem nn_code1 (k : Int) (c : C4) (le mo : Int) (fs : List (List ST → List ST)) (hf : ∀ f ∈ fs, NnF f) : NnF (code1 k c le mo fs) := fun xs h => by
  unfold code1
  split
  · exact nn_app h 0 c 0 0 (by omega) (by omega) (by omega)
  split
  · exact nn_app h 1 _ 0 0 (by omega) (by omega) (by omega)
  split
  · exact nn_app h 2 _ 0 0 (by omega) (by omega) (by omega)
  split
  · exact nn_fold fs xs hf h
  split
  · exact nn_patchA _ _ (nn_alt fs [] xs hf h)
  · refine nn_rep ?_ le mo xs h
    cases fs with
    | nil => exact fun xs h => h
    | cons f fs => exact hf f List.mem_cons_self
theorem nn_codes : ∀ t : Pt, ∀ f ∈ codes t, NnF f
  | .nil, f, hf => by cases hf
  | .cons k c le mo nu kids rest, f, hf => by
    unfold codes at hf
    rcases List.mem_cons.1 hf with hf | hf
    · subst hf; exact nn_code1 k c le mo _ (nn_codes kids)
    · exact nn_codes rest f hf
theorem parseR_ok {s : ByteArray} {fold : Bool} {z : Int} {xs : List ST} (h : parseR s fold = .ok z xs) : xs.length ≤ 1204 ∧ Nn xs ∧ s.size ≤ 200 := by
  unfold parseR at h
  by_cases c1 : 200 < s.size
  · rw [if_pos c1] at h; cases h
  rw [if_neg c1] at h
  cases hR : readR s fold with
  | bad n => rw [hR] at h; cases h
  | ok t q =>
    rw [hR] at h
    simp only at h
    obtain ⟨hone, hok, hfit⟩ := readR_good (by omega) hR
    by_cases c2 : 300 < (sizes t).headD 0
    · rw [if_pos c2] at h; cases h
    rw [if_neg c2] at h
    cases h
    cases t with
    | nil => cases hone
    | cons k c le mo nu kids rest =>
      have hgr := (codes_gr _ hok hfit).1 (by have : ¬ 300 < szOf k le mo nu (sumP kids 0) kids.len := c2; omega) []
      have hz : szOf k le mo nu (sumP kids 0) kids.len ≤ 300 := by have : ¬ 300 < szOf k le mo nu (sumP kids 0) kids.len := c2; omega
      refine ⟨?_, nn_app (nn_code1 k c le mo (codes kids) (nn_codes kids) [] (fun s hs => by cases hs)) 5 C4.nil 0 0 (by omega) (by omega) (by omega), by omega⟩
      rw [List.length_append]
      show (code1 k c le mo (codes kids) []).length + 1 ≤ 1204
      have h0 : ([] : List ST).length = 0 := rfl
      unfold bnd at hgr
      omega
/-- What Parse leaves, with the pattern whole. -/
def PaT (W : World) (s : ByteArray) (r : PR) (e : Ending) (w' : World) : Prop := match r with
  | .large => e = .returned (.tuple #[.pointer none, .int .i64 0, .int .i64 3]) ∧ Below W.heap.size W w'
  | .wrong n => e = .returned (.tuple #[.pointer none, .int .i64 (n : Int), .int .i64 2]) ∧ Below W.heap.size W w'
  | .ok z xs => ∃ g b, e = .returned (.tuple #[.pointer (some ⟨g, 0, none⟩), .int .i64 0, .int .i64 0]) ∧ PT w' g s z xs b ∧ Below W.heap.size W w'
theorem Parse.callsT (s : ByteArray) (fold : Bool) (W : World) (hs : s.size ≤ 9223372036854775807) : Calls Try.prog 10 #[.string s, .bool fold] W fun e w' => PaT W s (parseR s fold) e w' := by
  refine (Parse.calls s fold W hs).mono fun e w' h => ?_
  cases hr : parseR s fold with
  | large => rw [hr] at h; exact h
  | wrong n => rw [hr] at h; exact h
  | ok z xs =>
    rw [hr] at h
    obtain ⟨g, b, he, hp, _, _, hb⟩ := h
    obtain ⟨h1, h2, _⟩ := parseR_ok hr
    exact ⟨g, b, he, ⟨hp, h1, h2⟩, hb⟩
def patS : ByteArray := ⟨#[40, 97, 98, 124, 97, 41, 40, 99, 124, 98, 99, 41, 63]⟩
def badS : ByteArray := ⟨#[97, 123, 50]⟩
def okIs (r : PR) : Bool := match r with
  | .ok z xs => searchI xs [97, 98, 99] 0 == (0, 3, true)
  | _ => false
def wrongIs (r : PR) (k : Nat) : Bool := match r with
  | .wrong n => n == k
  | _ => false
theorem known_pat : okIs (parseR patS false) = true := by kernel_rfl
theorem known_bad : wrongIs (parseR badS false) 3 = true := by kernel_rfl
end Go.Proofs.Ytclgnefeankbgaa.M
namespace Go.Proofs.Ytclgnefeankbgaa.M
open Go Go.RowKit Go.Proofs.YtclgnefeankbgaaW.PrintWords Go.Proofs.YtclgnefeankbgaaW.PrintLast Go.Proofs.YtclgnefeankbgaaW.PrintMore Hand
attribute [local go_sem] Oper.semAt_some max2_int min2_int max_two min_two max_three min_three max_four min_four
set_option linter.unusedVariables false
set_option linter.unusedSimpArgs false
/-- Bytes that have just been made. -/
theorem BY.new (W : World) (fr : Nat × Nat) (bs : List Int) (hb : ∀ x ∈ bs, 0 ≤ x ∧ x ≤ 255) (hl : bs.length ≤ 1000000) : BY (W.alloc (.cells (bs.map fun x => Value.int .u8 x).toArray 5 fr)) (some ⟨W.heap.size, 0, none⟩) bs := by
  refine ⟨⟨rfl, by omega, fun _ => ⟨_, rfl, fun j p hj => ⟨[.int .u8 p], rfl, rfl, fun i u hi => ?_⟩⟩⟩, hb, hl⟩
  cases i with
  | succ i => simp at hi
  | zero =>
    have e : u = .int .u8 p := by simpa using hi.symm
    subst e
    have ea : ((⟨W.heap.size, 0, none⟩ : Addr).add (j * (Kd.int .u8).sz + 0)) = ⟨W.heap.size, j, none⟩ := by
      have : j * (Kd.int .u8).sz + 0 = j := by show j * 1 + 0 = j; omega
      rw [this]
      unfold Addr.add
      split <;> simp_all
    rw [ea, World.cell?_alloc_mark]
    simp [hj]
theorem BY.abc (W : World) (fr : Nat × Nat) : BY (W.alloc (.cells #[.int .u8 97, .int .u8 98, .int .u8 99] 5 fr)) (some ⟨W.heap.size, 0, none⟩) [97, 98, 99] := BY.new W fr [97, 98, 99] (by decide) (by decide)
set_option maxHeartbeats 8000000 in
set_option maxRecDepth 100000 in
theorem known.calls (W : World) : Calls Try.prog 9 #[] W fun e w' => e = .returned (.bool true) ∧ Below W.heap.size W w' := by
  have hp := fun W' => Parse.callsT patS false W' (by decide)
  have hq := fun W' => Parse.callsT badS false W' (by decide)
  have kp := known_pat
  have kq := known_bad
  cases hr : parseR patS false with
  | large => rw [hr] at kp; cases kp
  | wrong n => rw [hr] at kp; cases kp
  | ok z xs =>
    rw [hr] at kp
    simp only [hr] at hp
    have ks : searchI xs [97, 98, 99] 0 = (0, 3, true) := by
      unfold okIs at kp
      exact beq_iff_eq.1 kp
    cases hr2 : parseR badS false with
    | large => rw [hr2] at kq; cases kq
    | ok z xs => rw [hr2] at kq; cases kq
    | wrong n =>
      rw [hr2] at kq
      have kn : n = 3 := by
        unfold wrongIs at kq
        exact beq_iff_eq.1 kq
      subst kn
      simp only [hr2] at hq
      have HP : Aside0 (∀ W', Calls Try.prog 10 #[.string { data := #[40, 97, 98, 124, 97, 41, 40, 99, 124, 98, 99, 41, 63] }, .bool false] W' fun e w' => ∃ g b, e = .returned (.tuple #[.pointer (some ⟨g, 0, none⟩), .int .i64 0, .int .i64 0]) ∧ PT w' g patS z xs b ∧ Below W'.heap.size W' w') := ⟨hp⟩
      have HQ : Aside0 (∀ W', Calls Try.prog 10 #[.string { data := #[97, 123, 50] }, .bool false] W' fun e w' => e = .returned (.tuple #[.pointer none, .int .i64 3, .int .i64 2]) ∧ Below W'.heap.size W' w') := ⟨hq⟩
      have HS : Aside0 (∀ (g : Nat) (b : Option Nat) (A : Option Addr) (w : World), PT w g patS z xs b → BY w A [97, 98, 99] → Calls Try.prog 17 #[.pointer (some ⟨g, 0, none⟩), .slice A 3 3, .int .i64 0] w fun e w' => e = .returned (.tuple #[.int .i64 0, .int .i64 3, .bool true]) ∧ Below w.heap.size w w') := ⟨fun g b A w h1 h2 => by
        have := Search.calls g patS z xs b A 3 [97, 98, 99] 0 w h1 h2
        rw [ks] at this
        exact this⟩
      have kc := fun (w : World) (C : Array Value) (n c : Nat) => Lib.run_convert_bytes_const (P := Try.prog) w 23 5 C n c Try.underlying23 Try.underlying5
      clear hp hq kp kq hr hr2 ks
      go_enter Try.func9, Try.ntmps9
      go_wp2_with (first
        | (go_at_call 10; (with_reducible refine (HQ.out _).mono ?_); rintro e w5 ⟨rfl, hb⟩; have HB5 := Aside0.mk (HB4.out.trans (hb.mono HB4.out.size)); clear hb)
        | (go_at_call 17; (with_reducible refine (HS.out g b _ _ (HT1.out.call (below_alloc (Below.refl _ _) _)) (BY.abc _ _)).mono ?_); rintro e w4 ⟨rfl, hb⟩; have HB4 := Aside0.mk ((HB1.out.trans ((below_alloc (Below.refl _ _) _).mono HB1.out.size)).trans (hb.mono (Nat.le_trans HB1.out.size (below_alloc (Below.refl _ _) _).size))); clear hb)
        | (go_at_call 10; (with_reducible refine (HP.out _).mono ?_); rintro e w1 ⟨g, b, rfl, ht, hb⟩; have HT1 := Aside0.mk ht; have HB1 := Aside0.mk hb; clear ht hb))
      go_ret
      exact ⟨rfl, HB5.out⟩
end Go.Proofs.Ytclgnefeankbgaa.M
