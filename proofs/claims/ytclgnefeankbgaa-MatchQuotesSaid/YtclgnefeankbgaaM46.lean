/- The pattern of a text, after its errors and those of bytes: the walk; bytes copied. Conditions: as each theorem says. -/
import Derived.Test.YtclgnefeankbgaaM42
import Derived.Lib.SliceRun
namespace Go.Proofs.Ytclgnefeankbgaa.M
open Go Go.RowKit Go.Proofs.YtclgnefeankbgaaW.PrintWords Go.Proofs.YtclgnefeankbgaaW.PrintLast Go.Proofs.YtclgnefeankbgaaW.PrintMore Hand
attribute [local go_sem] Oper.semAt_some max2_int min2_int max_two min_two max_three min_three max_four min_four
set_option linter.unusedVariables false
set_option linter.unusedSimpArgs false
theorem u8_info : (Try.prog.info? 5).map (fun i => (i.zero, i.size, i.bytes)) = some (some (.int .u8 0), 1, 1) := by kernel_rfl
theorem C_noneC {w : World} {n : Nat} {l : List Int} (h : Kd.C (Kd.int .u8) w none n l) : l = [] ∧ n = 0 := by
  have hl := h.1
  by_cases h0 : 0 < n
  · obtain ⟨ad, e, _⟩ := h.2.2 h0
    cases e
  · exact ⟨List.eq_nil_of_length_eq_zero (by omega), by omega⟩
theorem lit_R (W : World) (base : Nat) (xs : List Int) (hb : base ≤ W.heap.size) (hl : xs.length ≤ 1000000) : Kd.R (Kd.int .u8) 5 (W.alloc (.cells (nums .u8 xs).toArray 5)) base (fun _ => True) (.slice (some ⟨W.heap.size, 0, none⟩) xs.length xs.length) xs :=
  Kd.R_of_own (h1 := fun _ => rfl) (ok := fun _ => True) (own_lit W base 5 .u8 xs hb (by omega)) (fun _ _ => trivial)
set_option maxHeartbeats 4000000 in
set_option maxRecDepth 100000 in
theorem clone.calls (A0 : Option Addr) (c0 m0 : Nat) (l0 : List Int) (w : World) (hr0 : Kd.C (Kd.int .u8) w A0 m0 l0) (hbig : m0 ≤ 1000000) :
    Calls Try.prog 48 #[.slice A0 m0 c0] w fun e w' => ∃ v0_ : Value, e = .returned v0_ ∧ Kd.R (Kd.int .u8) 5 w' w.heap.size (fun _ => True) v0_ l0 ∧ Below w.heap.size w w' := by
  have q22 : ∀ (w : World) (a : Option Addr) (n c n' c' : Nat), (binOp .eql 23 (.slice a n c) (.slice none n' c')).run Try.prog w = .ok (.bool a.isNone) w := fun w a n c n' c' => Lib.run_eql_slice_nil w _ _ a n c n' c' Try.underlying23
  cases A0 with
  | none =>
    obtain ⟨rfl, rfl⟩ := C_noneC hr0
    clear hr0
    go_enter Try.func48, Try.ntmps48
    go_wp2
    go_ret
    exact ⟨_, rfl, Kd.R_nil _ _ _ _ _, Below.refl _ _⟩
  | some ad =>
    have HR0 := Aside0.mk hr0
    clear hr0
    go_enter Try.func48, Try.ntmps48
    go_wp2_with ((with_reducible refine gate_builtin (b := .append) (xs := #[.tmp 5, .tmp 6]) rfl ?_); at_builtin; refine Kd.R_append_rows (Kd.int .u8) (w0 := w) w.heap.size rfl (.tmp 5) (.tmp 6) 23 5 (.int .u8 0) 1 rfl Try.underlying23 u8_info rfl (by decide) (by omega) _ [] l0 _ _ _ (fun _ => True) (fun _ => False) rfl rfl (lit_R w w.heap.size [] (Nat.le_refl _) (by simp)) (Kd.C_alloc HR0.out _) (fun _ _ h => h) (fun _ h => h.elim) (fun _ _ => trivial) (below_alloc (Below.refl _ _) _) ?aS ?aL ?_; (case aS => simp); (case aL => simp only [List.length_nil]; omega); intro v6 w6 ho hb _ _; have HO6 := Aside0.mk ho; have HB6 := Aside0.mk hb; clear ho hb)
    go_ret
    exact ⟨_, rfl, HO6.out, HB6.out⟩
abbrev kbytes : Kd (List Int) := Kd.slice 5 (Kd.int .u8)
set_option maxHeartbeats 4000000 in
theorem big.calls (A : Option Addr) (n c : Nat) (W : World) : Calls Try.prog 64 #[.slice A n c] W fun e w' => e = .returned (.bool (decide (4000 < n))) ∧ w' = W := by
  by_cases h : 4000 < n
  · have d1 : decide ((4000 : Int) < (n : Int)) = true := decide_eq_true (by omega)
    have d2 : decide (4000 < n) = true := decide_eq_true h
    rw [d2]
    go_enter Try.func64, Try.ntmps64
    go_wp2
    go_ret
    exact ⟨rfl, rfl⟩
  · have d1 : decide ((4000 : Int) < (n : Int)) = false := decide_eq_false (by omega)
    have d2 : decide (4000 < n) = false := decide_eq_false h
    rw [d2]
    go_enter Try.func64, Try.ntmps64
    go_wp2
    go_ret
    exact ⟨rfl, rfl⟩
def idxB : List (List Int) → Int → Int
  | [], _ => -1
  | y :: r, i => if 4000 < y.length then i else idxB r (i + 1)
theorem idxB_any : ∀ (l : List (List Int)) (i : Int), 0 ≤ i → decide (0 ≤ idxB l i) = l.any fun y => decide (4000 < y.length)
  | [], i, h => rfl
  | y :: r, i, h => by
    rw [idxB, List.any_cons]
    by_cases c : 4000 < y.length
    · rw [if_pos c, decide_eq_true c, decide_eq_true h]; rfl
    · rw [if_neg c, decide_eq_false c, Bool.false_or, idxB_any r (i + 1) (by omega)]
theorem slice_at {w : World} {A : Option Addr} {n : Nat} {l : List (List Int)} (h : Kd.C kbytes w A n l) {i : Nat} (hi : i < n) : ∃ ad A' c', A = some ad ∧ w.cell? (ad.add i) = some (.slice A' (l.getD i []).length c') ∧ Kd.C (Kd.int .u8) w A' (l.getD i []).length (l.getD i []) := by
  obtain ⟨ad, c, h1, h2, h3, h4⟩ := Kd.C_get h [] (i : Int) (by omega) (by omega)
  obtain ⟨A', c', rfl, h5, h6⟩ := h3
  have := h4 0 _ rfl
  have e : (i : Int).toNat * kbytes.sz + 0 = i := by show i * 1 + 0 = i; omega
  rw [e] at this
  exact ⟨ad, A', c', h1, this, h6⟩
set_option maxHeartbeats 4000000 in
set_option maxRecDepth 100000 in
theorem indexf.calls (A0 : Option Addr) (n c0 : Nat) (l : List (List Int)) (w : World) (hr0 : Kd.C kbytes w A0 n l) (hn : n ≤ 1000000) :
    Calls Try.prog 69 #[.slice A0 n c0, .func (.func 64) #[] #[]] w fun e w' => e = .returned (.int .i64 (idxB l 0)) ∧ Below w.heap.size w w' := by
  have HR0 := Aside0.mk hr0
  have HLL : Aside0 (l.length = n) := ⟨hr0.1⟩
  clear hr0
  obtain ⟨R, hR⟩ : ∃ R, idxB l 0 = R := ⟨_, rfl⟩
  rw [hR]
  have H' := Aside0.mk hR
  clear hR
  go_enter Try.func69, Try.ntmps69
  go_wp2
  go_loopg [8] n (fun kq v8 w' => ∃ i : Nat, v8 = .int .i64 (i : Int) ∧ i + kq = n ∧ Aside0 (idxB (l.drop i) (i : Int) = R) ∧ Aside0 (Below w.heap.size w w'))
  case atStart => exact ⟨0, rfl, by omega, H', ⟨Below.refl _ _⟩⟩
  case round =>
    clear H'
    obtain ⟨i, rfl, hk, HA, HB⟩ := hrel
    cases gk with
    | zero =>
      have e1 : decide ((i : Int) < (n : Int)) = false := decide_eq_false (by omega)
      have e2 : decide (i < n) = false := decide_eq_false (by omega)
      have hA := HA.out
      rw [List.drop_of_length_le (by rw [HLL.out]; omega), idxB] at hA
      subst hA
      go_wp2
      go_ret
      exact ⟨rfl, HB.out⟩
    | succ q =>
      have c1 : i < n := by omega
      have e1 : decide ((i : Int) < (n : Int)) = true := decide_eq_true (by omega)
      have e2 : decide (i < n) = true := decide_eq_true c1
      obtain ⟨ad, A', c', e, y0, _⟩ := slice_at (Kd.C_below HR0.out HB.out) c1
      subst e
      have i0 : (0 : Int) ≤ (i : Int) := by omega
      have i1 : (i : Int) < (n : Int) := by omega
      have hiL : i < l.length := by rw [HLL.out]; exact c1
      have hd : l.drop i = l.getD i [] :: l.drop (i + 1) := by
        rw [List.drop_eq_getElem_cons hiL, List.getD_eq_getElem?_getD, List.getElem?_eq_getElem hiL]
        rfl
      obtain ⟨m, hm⟩ : ∃ m, (l.getD i []).length = m := ⟨_, rfl⟩
      have hA := HA.out
      rw [hd, idxB, hm] at hA
      rw [hm] at y0
      have wi : IntKind.i64.wrap ((i : Int) + 1) = (i : Int) + 1 := by rw [IntKind.wrap_i64]; omega
      have hcs := fun w' => big.calls A' m c' w'
      by_cases cm : 4000 < m
      · rw [if_pos cm] at hA
        subst hA
        rw [decide_eq_true cm] at hcs
        have HCS := Aside0.mk hcs
        clear hcs hd hm HA cm
        go_wp2_with (go_at_call 64; (with_reducible refine (HCS.out _).mono ?_); rintro e w' ⟨rfl, rfl⟩)
        go_ret
        exact ⟨rfl, HB.out⟩
      · rw [if_neg cm] at hA
        have HA2 : Aside0 (idxB (l.drop (i + 1)) ((i + 1 : Nat) : Int) = R) := ⟨hA⟩
        rw [decide_eq_false cm] at hcs
        have HCS := Aside0.mk hcs
        clear hcs hd hm HA cm hA
        go_wp2_with (go_at_call 64; (with_reducible refine (HCS.out _).mono ?_); rintro e w' ⟨rfl, rfl⟩)
        go_roundg q
        case measure => omega
        case rel => exact ⟨i + 1, rfl, by omega, HA2, HB⟩
set_option maxHeartbeats 4000000 in
set_option maxRecDepth 100000 in
theorem containsf.calls (A0 : Option Addr) (n c0 : Nat) (l : List (List Int)) (w : World) (hr0 : Kd.C kbytes w A0 n l) (hn : n ≤ 1000000) :
    Calls Try.prog 63 #[.slice A0 n c0, .func (.func 64) #[] #[]] w fun e w' => e = .returned (.bool (l.any fun y => decide (4000 < y.length))) ∧ Below w.heap.size w w' := by
  have hc := indexf.calls A0 n c0 l w hr0 hn
  rw [← idxB_any l 0 (Int.le_refl 0)]
  obtain ⟨R, hR⟩ : ∃ R, idxB l 0 = R := ⟨_, rfl⟩
  rw [hR] at hc ⊢
  have HC := Aside0.mk hc
  clear hc hr0 hR
  by_cases c : 0 ≤ R
  · have d1 : decide (0 ≤ R) = true := decide_eq_true c
    rw [d1]
    go_enter Try.func63, Try.ntmps63
    go_wp2_with (go_at_call 69; (with_reducible refine HC.out.mono ?_); rintro e w1 ⟨rfl, hb⟩; have HB := Aside0.mk hb; clear hb)
    go_ret
    exact ⟨rfl, HB.out⟩
  · have d1 : decide (0 ≤ R) = false := decide_eq_false c
    rw [d1]
    go_enter Try.func63, Try.ntmps63
    go_wp2_with (go_at_call 69; (with_reducible refine HC.out.mono ?_); rintro e w1 ⟨rfl, hb⟩; have HB := Aside0.mk hb; clear hb)
    go_ret
    exact ⟨rfl, HB.out⟩
/-- What ready leaves: errors' numbers, or a pattern. -/
def RyT (W : World) (s : ByteArray) (r : PR) (big : Bool) (e : Ending) (w' : World) : Prop := match r with
  | .large => e = .returned (.tuple #[.pointer none, .int .i64 3]) ∧ Below W.heap.size W w'
  | .wrong n => e = .returned (.tuple #[.pointer none, .int .i64 2]) ∧ Below W.heap.size W w'
  | .ok z xs => match big with
    | true => e = .returned (.tuple #[.pointer none, .int .i64 3]) ∧ Below W.heap.size W w'
    | false => ∃ g b, e = .returned (.tuple #[.pointer (some ⟨g, 0, none⟩), .int .i64 0]) ∧ PT w' g s z xs b ∧ Below W.heap.size W w'
set_option maxHeartbeats 8000000 in
set_option maxRecDepth 100000 in
theorem ready.calls (s : ByteArray) (A0 : Option Addr) (n c0 : Nat) (l : List (List Int)) (W : World) (hs : s.size ≤ 9223372036854775807) (hr0 : Kd.C kbytes W A0 n l) (hn : n ≤ 1000000) :
    Calls Try.prog 47 #[.string s, .slice A0 n c0] W fun e w' => RyT W s (parseR s false) (l.any fun y => decide (4000 < y.length)) e w' := by
  have hp := fun W' => Parse.callsT s false W' hs
  have hc := fun w (hb : Below W.heap.size W w) => containsf.calls A0 n c0 l w (Kd.C_below hr0 hb) hn
  obtain ⟨r, hr⟩ : ∃ r, parseR s false = r := ⟨_, rfl⟩
  obtain ⟨big, hb⟩ : ∃ b, (l.any fun y => decide (4000 < y.length)) = b := ⟨_, rfl⟩
  rw [hr, hb]
  simp only [hr] at hp
  simp only [hb] at hc
  have HC := Aside0.mk hc
  cases r with
  | large =>
    have HP : Aside0 (∀ W', Calls Try.prog 10 #[.string s, .bool false] W' fun e w' => e = .returned (.tuple #[.pointer none, .int .i64 0, .int .i64 3]) ∧ Below W'.heap.size W' w') := ⟨hp⟩
    clear hp hc hr hb hs hr0
    go_enter Try.func47, Try.ntmps47
    go_wp2_with (go_at_call 10; (with_reducible refine (HP.out _).mono ?_); rintro e w1 ⟨rfl, hb⟩; have HB := Aside0.mk hb; clear hb)
    (try simp only [Exit.inBlock, Exit.then])
    refine bodyPost_ret (results_tmp2 rfl _ _ _) rfl ?_
    exact ⟨rfl, HB.out⟩
  | wrong k =>
    have HP : Aside0 (∀ W', Calls Try.prog 10 #[.string s, .bool false] W' fun e w' => e = .returned (.tuple #[.pointer none, .int .i64 (k : Int), .int .i64 2]) ∧ Below W'.heap.size W' w') := ⟨hp⟩
    clear hp hc hr hb hs hr0
    go_enter Try.func47, Try.ntmps47
    go_wp2_with (go_at_call 10; (with_reducible refine (HP.out _).mono ?_); rintro e w1 ⟨rfl, hb⟩; have HB := Aside0.mk hb; clear hb)
    (try simp only [Exit.inBlock, Exit.then])
    refine bodyPost_ret (results_tmp2 rfl _ _ _) rfl ?_
    exact ⟨rfl, HB.out⟩
  | ok z xs =>
    have HP : Aside0 (∀ W', Calls Try.prog 10 #[.string s, .bool false] W' fun e w' => ∃ g b, e = .returned (.tuple #[.pointer (some ⟨g, 0, none⟩), .int .i64 0, .int .i64 0]) ∧ PT w' g s z xs b ∧ Below W'.heap.size W' w') := ⟨hp⟩
    clear hp hc hr hb hs hr0
    cases big with
    | true =>
      go_enter Try.func47, Try.ntmps47
      go_wp2_with (first
        | (go_at_call 63; (with_reducible refine (HC.out _ HB.out).mono ?_); rintro e w2 ⟨rfl, hb⟩; have HB2 := Aside0.mk (HB.out.trans (hb.mono HB.out.size)); clear hb)
        | (go_at_call 10; (with_reducible refine (HP.out _).mono ?_); rintro e w1 ⟨g, b, rfl, ht, hb⟩; have HT := Aside0.mk ht; have HB := Aside0.mk hb; clear ht hb))
      (try simp only [Exit.inBlock, Exit.then])
      refine bodyPost_ret (results_tmp2 rfl _ _ _) rfl ?_
      exact ⟨rfl, HB2.out⟩
    | false =>
      go_enter Try.func47, Try.ntmps47
      go_wp2_with (first
        | (go_at_call 63; (with_reducible refine (HC.out _ HB.out).mono ?_); rintro e w2 ⟨rfl, hb⟩; have HT2 := Aside0.mk (HT.out.call hb); have HB2 := Aside0.mk (HB.out.trans (hb.mono HB.out.size)); clear hb)
        | (go_at_call 10; (with_reducible refine (HP.out _).mono ?_); rintro e w1 ⟨g, b, rfl, ht, hb⟩; have HT := Aside0.mk ht; have HB := Aside0.mk hb; clear ht hb))
      (try simp only [Exit.inBlock, Exit.then])
      refine bodyPost_ret (results_tmp2 rfl _ _ _) rfl ?_
      exact ⟨g, b, rfl, HT2.out, HB2.out⟩
end Go.Proofs.Ytclgnefeankbgaa.M
namespace Go.Proofs.Ytclgnefeankbgaa.M
open Go Go.RowKit Go.Proofs.YtclgnefeankbgaaW.PrintWords Go.Proofs.YtclgnefeankbgaaW.PrintLast Go.Proofs.YtclgnefeankbgaaW.PrintMore Hand
set_option linter.unusedVariables false
set_option linter.unusedSimpArgs false
theorem cut_mid' (A : Option Addr) (c m : Nat) (l : List Int) (hl : l.length = m) (hc : m ≤ c) (p q : Nat) (hp : p ≤ q) (hq : q ≤ m) : ∃ A' : Option Addr, (∀ W : World, (Instr.slice 23 (.slice A m c) (some (.int .i64 (p : Int))) (some (.int .i64 (q : Int))) none).run Try.prog W = .ok (.slice A' (q - p) (c - p)) W) ∧ ∀ w : World, Kd.C (Kd.int .u8) w A m l → Kd.C (Kd.int .u8) w A' (q - p) ((l.take q).drop p) := by
  obtain ⟨i1, hi1, _, hsz1, _⟩ := info_parts u8_info
  subst hl
  obtain ⟨A', hcut, hC, _⟩ := print_mid_of (P := Try.prog) (Value.int .u8) 0 23 5 .i64 .i64 Try.underlying23 hi1 hsz1 A c l (p : Int) (q : Int) (by omega) (by omega) (by omega) hc
  have e : ((l.take (q : Int).toNat).drop (p : Int).toNat).length = q - p := by rw [Int.toNat_natCast, Int.toNat_natCast, List.length_drop, List.length_take]; omega
  rw [e, Int.toNat_natCast] at hcut
  refine ⟨A', hcut, fun w h => ?_⟩
  have h2 := Kd.C_of_reads (h1 := fun _ => rfl) (hC w (Kd.reads_of_C h))
  rw [e, Int.toNat_natCast, Int.toNat_natCast] at h2
  exact h2
theorem cut_from (A : Option Addr) (c m : Nat) (l : List Int) (hl : l.length = m) (hc : m ≤ c) (p : Nat) (hp : p ≤ m) : ∃ A' : Option Addr, (∀ W : World, (Instr.slice 23 (.slice A m c) (some (.int .i64 (p : Int))) none none).run Try.prog W = .ok (.slice A' (m - p) (c - p)) W) ∧ ∀ w : World, Kd.C (Kd.int .u8) w A m l → Kd.C (Kd.int .u8) w A' (m - p) (l.drop p) := by
  obtain ⟨i1, hi1, _, hsz1, _⟩ := info_parts u8_info
  subst hl
  obtain ⟨A', hcut, hC, _⟩ := print_drop_of (P := Try.prog) (Value.int .u8) 0 23 5 .i64 Try.underlying23 hi1 hsz1 A c l (p : Int) (by omega) (by omega) hc
  have e : (l.drop (p : Int).toNat).length = l.length - p := by rw [Int.toNat_natCast, List.length_drop]
  rw [e, Int.toNat_natCast] at hcut
  refine ⟨A', hcut, fun w h => ?_⟩
  have h2 := Kd.C_of_reads (h1 := fun _ => rfl) (hC w (Kd.reads_of_C h))
  rw [e, Int.toNat_natCast] at h2
  exact h2
/-- A match: its ends and that it is the longest one of its place. -/
def IsM (xs : List ST) (bs : List Int) (i j : Nat) : Prop := i ≤ j ∧ j ≤ bs.length ∧ 0 < (endsP xs bs i).length ∧ (endsP xs bs i).getD ((endsP xs bs i).length - 1) 0 = (j : Int)
/-- Matches one behind the other, from a place to a place. -/
def ChE (xs : List ST) (bs : List Int) : Nat → List (Int × Int) → Nat → Prop
  | a, [], e => a ≤ e
  | a, (p, q) :: r, e => ∃ i j : Nat, p = (i : Int) ∧ q = (j : Int) ∧ a ≤ i ∧ IsM xs bs i j ∧ ChE xs bs j r e
theorem ChE.mono {xs : List ST} {bs : List Int} : ∀ {l : List (Int × Int)} {a e e' : Nat}, ChE xs bs a l e → e ≤ e' → ChE xs bs a l e'
  | [], a, e, e', h, he => Nat.le_trans h he
  | (p, q) :: r, a, e, e', ⟨i, j, h1, h2, h3, h4, h5⟩, he => ⟨i, j, h1, h2, h3, h4, h5.mono he⟩
theorem ChE.snoc {xs : List ST} {bs : List Int} {i j : Nat} (hm : IsM xs bs i j) : ∀ {l : List (Int × Int)} {a e : Nat}, ChE xs bs a l e → e ≤ i → ChE xs bs a (l ++ [((i : Int), (j : Int))]) j
  | [], a, e, h, he => ⟨i, j, rfl, rfl, Nat.le_trans h he, hm, Nat.le_refl _⟩
  | (p, q) :: r, a, e, ⟨i', j', h1, h2, h3, h4, h5⟩, he => ⟨i', j', h1, h2, h3, h4, ChE.snoc hm h5 he⟩
theorem allF_ch (xs : List ST) (bs : List Int) : ∀ (n at_ : Nat) (out : List (Int × Int)), at_ ≤ bs.length + 1 → ChE xs bs 0 out at_ → ChE xs bs 0 (allF xs bs n at_ out) (bs.length + 1)
  | 0, at_, out, ha, h => h.mono ha
  | n + 1, at_, out, ha, h => by
    rw [allF]
    obtain ⟨⟨p, q, is⟩, hS⟩ : ∃ S, searchF xs bs (bs.length + 1 - at_) at_ = S := ⟨_, rfl⟩
    rw [hS]
    simp only
    cases is with
    | false => rw [if_neg (by decide)]; exact h.mono ha
    | true =>
      rw [if_pos rfl]
      obtain ⟨i, j, rfl, rfl, h1, h2, h3, h4, h5, _⟩ := searchF_in xs bs _ at_ p q (by omega) hS
      rw [Int.toNat_natCast]
      have hm : IsM xs bs i j := ⟨h2, h3, h4, h5⟩
      have hs := ChE.snoc hm h h1
      split
      · split
        · exact allF_ch xs bs n (j + 1) out (by omega) (h.mono (by omega))
        · exact allF_ch xs bs n (j + 1) _ (by omega) (hs.mono (by omega))
      · exact allF_ch xs bs n j _ (by omega) hs
theorem allP_ch (xs : List ST) (bs : List Int) : ChE xs bs 0 (allP xs bs) (bs.length + 1) := allF_ch xs bs _ 0 [] (by omega) (Nat.le_refl 0)
theorem allF_head (xs : List ST) (bs : List Int) : ∀ (n at_ : Nat) (x : Int × Int) (out : List (Int × Int)), ∃ r, allF xs bs n at_ (x :: out) = x :: r
  | 0, at_, x, out => ⟨out, rfl⟩
  | n + 1, at_, x, out => by
    rw [allF]
    obtain ⟨⟨p, q, is⟩, hS⟩ : ∃ S, searchF xs bs (bs.length + 1 - at_) at_ = S := ⟨_, rfl⟩
    rw [hS]
    simp only
    split
    · split
      · split
        · exact allF_head xs bs n _ x out
        · exact allF_head xs bs n _ x _
      · exact allF_head xs bs n _ x _
    · exact ⟨out, rfl⟩
/-- No match begins before the first one. -/
theorem allP_first (xs : List ST) (bs : List Int) : (allP xs bs = [] ∧ ∀ k, k ≤ bs.length → endsP xs bs k = []) ∨ ∃ (i : Nat) (q : Int) (r : List (Int × Int)), allP xs bs = ((i : Int), q) :: r ∧ ∀ k, k < i → endsP xs bs k = [] := by
  unfold allP
  rw [allF]
  obtain ⟨⟨p, q, is⟩, hS⟩ : ∃ S, searchF xs bs (bs.length + 1 - 0) 0 = S := ⟨_, rfl⟩
  rw [hS]
  simp only
  cases is with
  | false =>
    rw [if_neg (by decide)]
    have h := (searchF_none xs bs _ 0 p q hS).2
    exact .inl ⟨rfl, fun k hk => h k (Nat.zero_le _) (by omega)⟩
  | true =>
    rw [if_pos rfl]
    obtain ⟨i, j, rfl, rfl, h1, h2, h3, h4, h5, h6⟩ := searchF_in xs bs _ 0 p q (by omega) hS
    refine .inr ⟨i, (j : Int), ?_⟩
    have e : (if 0 < ([] : List (Int × Int)).length ∧ (([] : List (Int × Int)).getD (([] : List (Int × Int)).length - 1) (0, 0)).2 = (i : Int) then allF xs bs (bs.length + 1) ((j : Int).toNat + 1) [] else allF xs bs (bs.length + 1) ((j : Int).toNat + 1) ([] ++ [((i : Int), (j : Int))])) = allF xs bs (bs.length + 1) ((j : Int).toNat + 1) [((i : Int), (j : Int))] := if_neg (fun h => absurd h.1 (Nat.lt_irrefl 0))
    rw [e]
    split
    · obtain ⟨r, hr⟩ := allF_head xs bs (bs.length + 1) ((j : Int).toNat + 1) ((i : Int), (j : Int)) []
      exact ⟨r, hr, fun k hk => h6 k (Nat.zero_le _) hk⟩
    · obtain ⟨r, hr⟩ := allF_head xs bs (bs.length + 1) (j : Int).toNat ((i : Int), (j : Int)) []
      exact ⟨r, hr, fun k hk => h6 k (Nat.zero_le _) hk⟩
theorem allF_len (xs : List ST) (bs : List Int) : ∀ (n at_ : Nat) (out : List (Int × Int)), (allF xs bs n at_ out).length ≤ out.length + n
  | 0, at_, out => Nat.le_refl _
  | n + 1, at_, out => by
    rw [allF]
    obtain ⟨⟨p, q, is⟩, hS⟩ : ∃ S, searchF xs bs (bs.length + 1 - at_) at_ = S := ⟨_, rfl⟩
    rw [hS]
    simp only
    split
    · split
      · split
        · have := allF_len xs bs n (q.toNat + 1) out; omega
        · have := allF_len xs bs n (q.toNat + 1) (out ++ [(p, q)]); rw [List.length_append] at this; simp at this; omega
      · have := allF_len xs bs n q.toNat (out ++ [(p, q)]); rw [List.length_append] at this; simp at this; omega
    · omega
theorem allP_len (xs : List ST) (bs : List Int) : (allP xs bs).length ≤ bs.length + 2 := by
  have := allF_len xs bs (bs.length + 2) 0 []
  unfold allP
  simpa using this
/-- What is between the matches. -/
def splitL (bs : List Int) : List (Int × Int) → Nat → List (List Int)
  | [], at_ => [bs.drop at_]
  | (p, q) :: r, at_ => ((bs.take p.toNat).drop at_) :: splitL bs r q.toNat
theorem splitL_len (bs : List Int) : ∀ (l : List (Int × Int)) (at_ : Nat), (splitL bs l at_).length = l.length + 1
  | [], at_ => rfl
  | (p, q) :: r, at_ => by rw [splitL, List.length_cons, splitL_len bs r, List.length_cons]
end Go.Proofs.Ytclgnefeankbgaa.M
namespace Go.Proofs.Ytclgnefeankbgaa.M
open Go Go.RowKit Go.Proofs.YtclgnefeankbgaaW.PrintWords Go.Proofs.YtclgnefeankbgaaW.PrintLast Go.Proofs.YtclgnefeankbgaaW.PrintMore Hand
attribute [local go_sem] Oper.semAt_some max2_int min2_int max_two min_two max_three min_three max_four min_four
set_option linter.unusedVariables false
set_option linter.unusedSimpArgs false
theorem prSize (W : World) : (sizeOf 51).run Try.prog W = .ok 2 W := by kernel_rfl
theorem prAgg (W : World) : (isAgg 51).run Try.prog W = .ok true W := by kernel_rfl
def prC (x : Int × Int) : Array Value := #[.int .i64 x.1, .int .i64 x.2]
section
variable {ops : Array Oper} {rest : List Oper} {o : Oper} {a : Act} {Q : Exit → Act → World → Prop} {w : World}
theorem load_prc (hg : o.guard = none) (p : Tmp) (hop : o.op = .load 51 (.tmp p)) (g i : Nat) (hp : a.eval (.tmp p) = .pointer (some ⟨g, i, none⟩)) (x : Int × Int) (c0 : w.cell? ⟨g, i, none⟩ = some (.int .i64 x.1)) (c1 : w.cell? ⟨g, i + 1, none⟩ = some (.int .i64 x.2)) (hK : wpList Try.prog ops Q rest (a.put o.dst (.agg (prC x))) w) : wpList Try.prog ops Q (o :: rest) a w := by
  refine wpList_plain hg fun K' hK' => ?_
  have hl : (loadVar 51 ⟨g, i, none⟩).run Try.prog w = .ok (.agg (prC x)) w := by
    simp [loadVar, Sem.run_bind, prAgg w, prSize w, loadCells, c0, c1, go_sem]
    rfl
  have hrun : (Instr.loadAt 51 (.pointer (some ⟨g, i, none⟩))).run Try.prog w = .ok (.agg (prC x)) w := by
    simp [Instr.loadAt, Sem.run_bind, Instr.sureAddr, hl]
  unfold Oper.wp
  simp [execOp, hop, hp, hrun, Result.andThen]
  exact hK' _ _ hK
theorem store_pr (hg : o.guard = none) (p : Tmp) (x : Operand) (hop : o.op = .store 51 (.tmp p) x) (g : Nat) (hp : a.eval (.tmp p) = .pointer (some ⟨g, 0, none⟩)) (z v : Int × Int) (hv : a.eval x = .agg (prC v)) (h : VAt w g 51 (prC z)) (hK : ∀ w', VAt w' g 51 (prC v) → Mv g w w' → wpList Try.prog ops Q rest (a.put o.dst undef) w') : wpList Try.prog ops Q (o :: rest) a w :=
  wpList_store_row hg 51 (.tmp p) x hop g (prC v) hp hv 51 (prC z) h (by kernel_rfl) rfl (by simp [prC, Value.oneCell']) (hK _ (setRow_heap w g (prC z) (prC v) 51 (0, 0) h) (setRow_mv w g (prC v)))
theorem alloc_pr (hg : o.guard = none) {d : Tmp} (hd : o.dst = some d) (hop : o.op = .alloc 51) (hK : ∀ g w', g = w.heap.size → VAt w' g 51 (prC (0, 0)) → Below w.heap.size w w' → wpList Try.prog ops Q rest (a.put o.dst (.pointer (some ⟨g, 0, none⟩))) w') : wpList Try.prog ops Q (o :: rest) a w := by
  refine box_event hg hd (cs := prC (0, 0)) (t := 51) ?_ (fun g hgs w1 hb hbl => hK g w1 hgs hb hbl)
  have hrun : (Instr.alloc 51 true (.tuple #[])).run Try.prog w = .ok (.pointer (some ⟨w.heap.size, 0, none⟩)) (w.alloc (.cells (prC (0, 0)) 51)) := by kernel_rfl
  simp [execOp, hop, Result.andThen, hrun]
end
/-- A row of bytes' rows made anew. -/
def RB (w : World) (base : Nat) (v : Value) (l : List (List Int)) : Prop := Kd.R kbytes 23 w base (fun _ => True) v l
theorem RB.nil (w : World) (base : Nat) : RB w base (.slice none 0 0) [] := Kd.R_nil _ _ _ _ _
theorem RB.call {w w' : World} {base : Nat} {v : Value} {l : List (List Int)} (h : RB w base v l) (hb : Below w.heap.size w w') : RB w' base v l := Kd.R_below h hb
theorem RB.form {w : World} {base : Nat} {v : Value} {l : List (List Int)} (h : RB w base v l) : ∃ (g : Option Nat) (c : Nat), v = .slice (g.map fun g => ⟨g, 0, none⟩) l.length c := by
  obtain ⟨inner, hin⟩ := Kd.R_own h
  rcases hin.2 with ⟨hn, h0⟩ | ⟨g, cap, cur, hv2, hg, _⟩
  · refine ⟨none, 0, ?_⟩
    rw [hn, h0]
    rfl
  · exact ⟨some g, cap, hv2⟩
/-- The matches' row stays where the bytes' row grows. -/
theorem rp_grown {w w1 : World} {base base' : Nat} {v v8 : Value} {l : List (Int × Int)} {parts : List (List Int)} (h : RP w base v l) (h8 : RB w base' v8 parts) (hg : w.grownBy w1 v8.ownBlock) : RP w1 base v l := by
  obtain ⟨inner, hin⟩ := Kd.R_own h8
  refine Kd.R_mono (Kd.R_grown (Kd.R_bound h) hg fun k hk e => ?_) fun _ _ => trivial
  obtain ⟨_, _, _, q, hq, cells, hc⟩ := hk
  obtain ⟨cells2, hc2⟩ := own_typed hin k e.symm
  rw [hc] at hc2
  injection hc2 with hc2
  injection hc2 with _ hc2
  have hq' : q = 51 := by simpa [kpair, Kd.pair, Kd.int, Kd.scalar] using hq
  rw [hq'] at hc2
  exact absurd hc2 (by decide)
/-- A variable of two numbers stays, likewise. -/
theorem rv_grown {w w1 : World} {base' r : Nat} {x : Int × Int} {v8 : Value} {parts : List (List Int)} (h : VAt w r 51 (prC x)) (h8 : RB w base' v8 parts) (hg : w.grownBy w1 v8.ownBlock) : w1.cell? ⟨r, 1, none⟩ = some (.int .i64 x.2) := by
  obtain ⟨inner, hin⟩ := Kd.R_own h8
  have hne : some r ≠ v8.ownBlock := fun e => by
    obtain ⟨cells2, hc2⟩ := own_typed hin r e.symm
    have h' : w.heap[r]? = some (.cells (prC x) 51 (0, 0)) := h
    rw [h'] at hc2
    injection hc2 with hc2
    injection hc2 with _ hc2
    exact absurd hc2 (by decide)
  have h1 : VAt w1 r 51 (prC x) := (hg.block r (blk_lt h) hne).trans h
  exact (blk_cell h1 1).trans rfl
/-- A row of one row of bytes. -/
theorem one_C {W : World} {A : Option Addr} {bs : List Int} {c : Nat} (h : Kd.C (Kd.int .u8) W A bs.length bs) (hc : bs.length ≤ c) : Kd.C kbytes (W.alloc (.cells #[.slice A bs.length c] 23)) (some ⟨W.heap.size, 0, none⟩) 1 [bs] := by
  have hnew : (W.alloc (.cells #[.slice A bs.length c] 23)).heap[W.heap.size]? = some (.cells #[.slice A bs.length c] 23 (0, 0)) := blk_new W _
  refine ⟨rfl, by decide, fun _ => ⟨_, rfl, fun j p hj => ⟨[.slice A bs.length c], rfl, ?_, fun i u hi => ?_⟩⟩⟩
  · cases j with
    | succ j => simp at hj
    | zero =>
      have e : p = bs := by simpa using hj.symm
      subst e
      exact ⟨A, c, rfl, hc, Kd.C_alloc h _⟩
  · cases j with
    | succ j => simp at hj
    | zero =>
      cases i with
      | succ i => simp at hi
      | zero =>
        have e : u = .slice A bs.length c := by simpa using hi.symm
        subst e
        have ea : ((⟨W.heap.size, 0, none⟩ : Addr).add (0 * kbytes.sz + 0)) = ⟨W.heap.size, 0, none⟩ := by
          rw [Nat.zero_mul]
          unfold Addr.add
          split <;> simp_all
        rw [ea, blk_cell hnew]
        rfl
theorem bytes_info : (Try.prog.info? 23).map (fun i => (i.zero, i.size, i.bytes)) = some (some (.slice none 0 0), 1, 24) := by kernel_rfl
/-- The error of a text and bytes. -/
def errOf (r : PR) (big : Bool) : Int := match r with
  | .large => 3
  | .wrong _ => 2
  | .ok _ _ => if big = true then 3 else 0
theorem RyT.err {W w' : World} {s : ByteArray} {r : PR} {big : Bool} {e : Ending} (h : RyT W s r big e w') (hk : errOf r big ≠ 0) : e = .returned (.tuple #[.pointer none, .int .i64 (errOf r big)]) ∧ Below W.heap.size W w' := by
  cases r with
  | large => exact h
  | wrong n => exact h
  | ok z xs => cases big with
    | true => exact h
    | false => exact absurd rfl hk
theorem errOf_ok {r : PR} {big : Bool} (h : errOf r big = 0) : ∃ z xs, r = .ok z xs ∧ big = false := by
  cases r with
  | large => cases h
  | wrong n => cases h
  | ok z xs => cases big with
    | true => cases h
    | false => exact ⟨z, xs, rfl, rfl⟩
/-- What Split has. -/
structure SW (W w : World) (base : Nat) (v24 : Value) (l : List (Int × Int)) (v8 : Value) (parts : List (List Int)) : Prop where
  out : RB w W.heap.size v8 parts
  row : RP w base v24 l
  hb : Below W.heap.size W w
theorem SW.call {W w w' : World} {base : Nat} {v24 v8 : Value} {l : List (Int × Int)} {parts : List (List Int)} (h : SW W w base v24 l v8 parts) (hb : Below w.heap.size w w') : SW W w' base v24 l v8 parts := ⟨h.out.call hb, h.row.call hb, h.hb.trans (hb.mono h.hb.size)⟩
theorem SW.new {W w w' : World} {base : Nat} {v24 v8 v0 : Value} {l : List (Int × Int)} {parts : List (List Int)} {p : List Int} (h : SW W w base v24 l v8 parts) (hr : Kd.R (Kd.int .u8) 5 w' w.heap.size (fun _ => True) v0 p) : kbytes.M w' W.heap.size (fun k => True ∧ some k ≠ v8.ownBlock) p [v0] := by
  obtain ⟨inner, ho⟩ := Kd.R_own h.out
  exact ⟨v0, rfl, Kd.R_lower (Kd.R_new hr ho) h.hb.size⟩
theorem SW.app {W w w' : World} {base : Nat} {v24 v8 v1 : Value} {l : List (Int × Int)} {parts parts1 : List (List Int)} (h : SW W w base v24 l v8 parts) (ho : RB w' W.heap.size v1 parts1) (hb : Below W.heap.size W w') (hg : w.grownBy w' v8.ownBlock) : SW W w' base v24 l v1 parts1 := ⟨ho, rp_grown h.row h.out hg, hb⟩
set_option maxHeartbeats 16000000 in
set_option maxRecDepth 100000 in
theorem Split.err (s : ByteArray) (A : Option Addr) (c : Nat) (bs : List Int) (W : World) (hs : s.size ≤ 9223372036854775807) (hb : BY W A bs) (hc : bs.length ≤ c) (he : errOf (parseR s false) (decide (4000 < bs.length)) ≠ 0) :
    Calls Try.prog 28 #[.string s, .slice A bs.length c] W fun e w' => e = .returned (.tuple #[.slice none 0 0, .int .i64 (errOf (parseR s false) (decide (4000 < bs.length)))]) ∧ Below W.heap.size W w' := by
  have hrd := ready.calls s (some ⟨W.heap.size, 0, none⟩) 1 1 [bs] (W.alloc (.cells #[.slice A bs.length c] 23)) hs (one_C hb.C hc) (by decide)
  have e1 : ([bs].any fun y => decide (4000 < y.length)) = decide (4000 < bs.length) := by simp
  rw [e1] at hrd
  obtain ⟨k, hk⟩ : ∃ k, errOf (parseR s false) (decide (4000 < bs.length)) = k := ⟨_, rfl⟩
  have hr2 := hrd.mono fun e w' h => h.err he
  rw [hk] at hr2 he ⊢
  have d1 : (k == 0) = false := beq_eq_false_iff_ne.2 he
  have d2 : (k != 0) = true := by simp [he]
  have HR := Aside0.mk hr2
  clear hrd hr2 hk e1 hb
  go_enter Try.func28, Try.ntmps28
  go_wp2_with (go_at_call 47; (with_reducible refine HR.out.mono ?_); rintro e w1 ⟨rfl, hb⟩; have HB := Aside0.mk ((below_alloc (Below.refl _ _) _).trans (hb.mono (below_alloc (Below.refl _ _) _).size)); clear hb)
  (try simp only [Exit.inBlock, Exit.then])
  refine bodyPost_ret (results_tmp2 rfl _ _ _) rfl ?_
  exact ⟨rfl, HB.out⟩
set_option maxHeartbeats 16000000 in
set_option maxRecDepth 100000 in
theorem Split.ok (s : ByteArray) (z : Int) (xs : List ST) (A : Option Addr) (c : Nat) (bs : List Int) (W : World) (hs : s.size ≤ 9223372036854775807) (hb : BY W A bs) (hc : bs.length ≤ c) (hr : parseR s false = .ok z xs) (hbig : bs.length ≤ 4000) :
    Calls Try.prog 28 #[.string s, .slice A bs.length c] W fun e w' => ∃ v, e = .returned (.tuple #[v, .int .i64 0]) ∧ RB w' W.heap.size v (splitL bs (allP xs bs) 0) ∧ Below W.heap.size W w' := by
  have hrd := ready.calls s (some ⟨W.heap.size, 0, none⟩) 1 1 [bs] (W.alloc (.cells #[.slice A bs.length c] 23)) hs (one_C hb.C hc) (by decide)
  have e1 : ([bs].any fun y => decide (4000 < y.length)) = false := by simp; omega
  rw [e1, hr] at hrd
  have hal := fun pp bk w h1 h2 => All.calls pp s z xs bk A c bs w h1 h2
  have hch := allP_ch xs bs
  have hll := allP_len xs bs
  have hcutm := cut_mid' A c bs.length bs rfl hc
  have hcutf := cut_from A c bs.length bs rfl hc
  have hby := fun w (h : Below W.heap.size W w) => (hb.call h).C
  obtain ⟨l, hl⟩ : ∃ l, allP xs bs = l := ⟨_, rfl⟩
  simp only [hl] at hal hch hll ⊢
  obtain ⟨R, hR⟩ : ∃ R, splitL bs l 0 = R := ⟨_, rfl⟩
  rw [hR]
  obtain ⟨N, hN⟩ : ∃ N, bs.length = N := ⟨_, rfl⟩
  have HNN := Aside0.mk hN
  have HBW := Aside0.mk hb
  simp only [hN] at hal hch hll hcutm hcutf hby hrd hbig hc ⊢
  obtain ⟨L, hL⟩ : ∃ L, l.length = L := ⟨_, rfl⟩
  have HLL := Aside0.mk hL
  rw [hL] at hll
  have HR : Aside0 (Calls Try.prog 47 #[.string s, .slice (some ⟨W.heap.size, 0, none⟩) 1 1] (W.alloc (.cells #[.slice A N c] 23)) fun e w' => ∃ g b, e = .returned (.tuple #[.pointer (some ⟨g, 0, none⟩), .int .i64 0]) ∧ PT w' g s z xs b ∧ Below (W.alloc (.cells #[.slice A N c] 23)).heap.size (W.alloc (.cells #[.slice A N c] 23)) w') := ⟨hrd⟩
  have HAL := Aside0.mk hal
  have HCH := Aside0.mk hch
  have HCM := Aside0.mk hcutm
  have HCF := Aside0.mk hcutf
  have HBY := Aside0.mk hby
  have HS0 : Aside0 ([] ++ splitL bs (l.drop 0) 0 = R) := ⟨by rw [List.drop_zero]; exact hR⟩
  have hLb : L ≤ 4002 := by omega
  clear hrd hal hch hll hcutm hcutf hby hR hL hN hl e1 hb hr hs
  go_enter Try.func28, Try.ntmps28
  go_wp2_with (first
    | (go_at_call 24; (with_reducible refine (HAL.out g b _ HT.out (HBW.out.call HB.out)).mono ?_); rintro e w2 ⟨v24, rfl, hrow, hb2⟩; have hform := hrow.at_; obtain ⟨g24, c24, hv24, _, _⟩ := hform; rw [HLL.out] at hv24; subst hv24; have HSW := Aside0.mk (SW.mk (RB.nil w2 W.heap.size) hrow (HB.out.trans (hb2.mono HB.out.size))); clear hrow hb2)
    | (go_at_call 47; (with_reducible refine HR.out.mono ?_); rintro e w1 ⟨g, b, rfl, ht, hb⟩; have HT := Aside0.mk ht; have HB := Aside0.mk ((below_alloc (Below.refl _ _) _).trans (hb.mono (below_alloc (Below.refl _ _) _).size)); clear ht hb))
  go_loopg [8, 9, 26] L (fun kq v8 v9 v26 w' => ∃ (i at_ : Nat) (g8 : Option Nat) (c8 : Nat) (parts : List (List Int)), v8 = .slice (g8.map fun g => ⟨g, 0, none⟩) i c8 ∧ v9 = .int .i64 (at_ : Int) ∧ v26 = .int .i64 (i : Int) ∧ i + kq = L ∧ at_ ≤ N ∧ Aside0 (parts.length = i) ∧ Aside0 (parts ++ splitL bs (l.drop i) at_ = R) ∧ Aside0 (ChE xs bs at_ (l.drop i) (N + 1)) ∧ Aside0 (SW W w' w1.heap.size (.slice (g24.map fun g => ⟨g, 0, none⟩) L c24) l (.slice (g8.map fun g => ⟨g, 0, none⟩) i c8) parts))
  case atStart => exact ⟨0, 0, none, 0, [], rfl, rfl, rfl, by omega, by omega, ⟨rfl⟩, HS0, ⟨by rw [List.drop_zero]; exact HCH.out⟩, HSW⟩
  case round =>
    clear HS0 HCH HSW
    obtain ⟨i, at_, g8, c8, parts, rfl, rfl, rfl, hik, hat, HPL, HSP, HCE, HSW⟩ := hrel
    cases gk with
    | zero =>
      have d1 : decide ((i : Int) < (L : Int)) = false := decide_eq_false (by omega)
      have d2 : decide (i < L) = false := decide_eq_false (by omega)
      obtain ⟨A9, hcut, hcd⟩ := HCF.out at_ hat
      have hsp := HSP.out
      rw [List.drop_of_length_le (by rw [HLL.out]; omega), splitL] at hsp
      have HSP2 := Aside0.mk hsp
      have HCD := Aside0.mk hcd
      have hLL : (parts.length + 1) * 24 ≤ 140737488355328 := by rw [HPL.out]; omega
      have HL4 := Aside0.mk hLL
      have hNa : N - at_ ≤ 1000000 := by omega
      clear hsp hcd hLL
      go_wp2_with (first
        | ((with_reducible refine gate_builtin (b := .append) (xs := #[.tmp 42, .tmp 47]) rfl ?_); at_builtin; refine Kd.R_append kbytes (w0 := W) W.heap.size rfl (.tmp 42) (.tmp 47) 52 23 (.slice none 0 0) 24 rfl Try.underlying52 bytes_info rfl (by decide) (by omega) (.slice (g8.map fun g => ⟨g, 0, none⟩) i c8) parts (bs.drop at_) [.slice a0 m0 cc0] (fun _ => True) _ rfl rfl HM3.out (fun _ hk => ⟨trivial, hk.2⟩) (fun _ _ => trivial) HSW3.out.out HSW3.out.hb HSW3.out.hb.size HL4.out ?_; intro v1 w4 ho hb hg hat; have HO4 := Aside0.mk (And.intro ho hb); clear ho hb hg hat)
        | (go_at_call 48; (with_reducible refine (clone.calls A9 (c - at_) (N - at_) (bs.drop at_) _ (HCD.out _ (HBY.out _ HSW.out.hb)) hNa).mono ?_); rintro e w3 ⟨v0, rfl, hr0, hb0⟩; obtain ⟨a0, cc0, hv0⟩ := Kd.R_slice hr0; obtain ⟨m0, hm0⟩ : ∃ m, (bs.drop at_).length = m := ⟨_, rfl⟩; rw [hm0] at hv0; subst hv0; have HSW3 := Aside0.mk (HSW.out.call hb0); have HM3 := Aside0.mk (HSW.out.new hr0); clear hr0 hb0 hm0))
      (try simp only [Exit.inBlock, Exit.then])
      refine bodyPost_ret (results_tmp2 rfl _ _ _) rfl ?_
      exact ⟨v1, rfl, by rw [← HSP2.out]; exact HO4.out.1, HO4.out.2⟩
    | succ q =>
      have hiL : i < L := by omega
      have d1 : decide ((i : Int) < (L : Int)) = true := decide_eq_true (by omega)
      have d2 : decide (i < L) = true := decide_eq_true hiL
      have i0 : (0 : Int) ≤ (i : Int) := by omega
      have i1 : (i : Int) < (L : Int) := by omega
      have wi : IntKind.i64.wrap ((i : Int) + 1) = (i : Int) + 1 := by rw [IntKind.wrap_i64]; omega
      have hlen : i < l.length := by rw [HLL.out]; exact hiL
      have hd : l.drop i = l.getD i (0, 0) :: l.drop (i + 1) := by
        rw [List.drop_eq_getElem_cons hlen, List.getD_eq_getElem?_getD, List.getElem?_eq_getElem hlen]
        rfl
      obtain ⟨g2, c2, hv2, _, hcells⟩ := HSW.out.row.at_
      obtain ⟨b24, hb24, k0, k1⟩ := hcells i hlen
      have hgg : g24 = some b24 := by
        injection hv2 with e1 _ _
        rw [hb24] at e1
        cases g24 with
        | none => cases e1
        | some g => simp at e1; rw [e1]
      obtain ⟨⟨p, q2⟩, hpq⟩ : ∃ x, l.getD i (0, 0) = x := ⟨_, rfl⟩
      have hce := HCE.out
      have hsp := HSP.out
      rw [hd, hpq] at hce hsp
      rw [hpq] at k0 k1
      obtain ⟨m, j, rfl, rfl, h1, ⟨h2, h3, _, _⟩, h5⟩ := hce
      rw [splitL, Int.toNat_natCast, Int.toNat_natCast] at hsp
      have hjN : j ≤ N := by rw [← HNN.out]; exact h3
      obtain ⟨A9, hcut, hcd⟩ := HCM.out at_ m h1 (by omega)
      have HCD := Aside0.mk hcd
      have HCE2 := Aside0.mk h5
      have hsp2 : (parts ++ [(bs.take m).drop at_]) ++ splitL bs (l.drop (i + 1)) j = R := by rw [List.append_assoc]; exact hsp
      have HSP2 := Aside0.mk hsp2
      have hLL : (parts.length + 1) * 24 ≤ 140737488355328 := by rw [HPL.out]; omega
      have HL4 := Aside0.mk hLL
      have hma : m - at_ ≤ 1000000 := by omega
      have HK := Aside0.mk (And.intro k0 k1)
      have hiq : i + 1 + q = L := by omega
      subst hgg
      clear hsp hcd hLL h5 hsp2 hpq hv2 hcells hd k0 k1
      go_wp2_with (first
        | ((with_reducible refine gate_builtin (b := .append) (xs := #[.tmp 30, .tmp 37]) rfl ?_); at_builtin; refine Kd.R_append kbytes (w0 := W) W.heap.size rfl (.tmp 30) (.tmp 37) 52 23 (.slice none 0 0) 24 rfl Try.underlying52 bytes_info rfl (by decide) (by omega) (.slice (g8.map fun g => ⟨g, 0, none⟩) i c8) parts ((bs.take m).drop at_) [.slice a0 m0 cc0] (fun _ => True) _ rfl rfl HM3.out (fun _ hk => ⟨trivial, hk.2⟩) (fun _ _ => trivial) HSW3.out.out HSW3.out.hb HSW3.out.hb.size HL4.out ?_; intro v1 w6 ho hb hg hat; obtain ⟨g9, c9, hv9⟩ := RB.form ho; rw [List.length_append, HPL.out] at hv9; have hv10 : v1 = .slice (g9.map fun g => ⟨g, 0, none⟩) (i + 1) c9 := hv9; subst hv10; have HSW4 := Aside0.mk (HSW3.out.app ho hb hg); have kr1 := HRV3.out w6 hg; clear ho hb hg hat hv9)
        | (go_at_call 48; (with_reducible refine (clone.calls A9 (c - at_) (m - at_) ((bs.take m).drop at_) _ (HCD.out _ (HBY.out _ HSW2.out.hb)) hma).mono ?_); rintro e w5 ⟨v0, rfl, hr0, hb0⟩; obtain ⟨a0, cc0, hv0⟩ := Kd.R_slice hr0; obtain ⟨m0, hm0⟩ : ∃ n, ((bs.take m).drop at_).length = n := ⟨_, rfl⟩; rw [hm0] at hv0; subst hv0; have HSW3 := Aside0.mk (HSW2.out.call hb0); have HM3 := Aside0.mk (HSW2.out.new hr0); have HV5 := Aside0.mk (HV4.out.move hb0); have HRV3 := Aside0.mk (fun w6 (hg : w5.grownBy w6 (Value.slice (g8.map fun g => ⟨g, 0, none⟩) i c8).ownBlock) => rv_grown HV5.out HSW3.out.out hg); clear hr0 hb0 hm0)
        | ((with_reducible refine gate_storeT (t := 51) (p := 11) rfl ?_); refine store_pr rfl 11 _ rfl _ rfl (0, 0) ((m : Int), (j : Int)) rfl HV2.out.1 ?_; intro w4 hc hm; have HV4 := Aside0.mk hc; have hbl := (hm.below HV2.out.2.1 (by have := HV2.out.2.2; omega) (by have := HV2.out.2.1.size; omega)); have HSW2 := Aside0.mk (HSW.out.call hbl); have kr0 := blk_cell hc 0; have kr0' : w4.cell? ⟨r11, 0, none⟩ = some (.int .i64 (m : Int)) := kr0; clear hc hm hbl kr0)
        | ((with_reducible refine gate_alloc (t := 51) (d := 11) rfl rfl ?_); refine alloc_pr rfl rfl rfl ?_; intro r11 w3 hg1 hc1 hb1; have HV2 : Aside0 (VAt w3 r11 51 (prC (0, 0)) ∧ Below wr.heap.size wr w3 ∧ r11 = wr.heap.size) := ⟨hc1, hb1, hg1⟩; clear hg1 hc1 hb1)
        | ((with_reducible refine gate_load (t := 51) (p := 28) rfl ?_); refine load_prc rfl 28 rfl b24 (i * 2) rfl ((m : Int), (j : Int)) HK.out.1 HK.out.2 ?_))
      go_roundg q
      case measure => omega
      case rel => exact ⟨i + 1, j, g9, c9, parts ++ [(bs.take m).drop at_], rfl, rfl, rfl, hiq, hjN, ⟨by rw [List.length_append, HPL.out]; rfl⟩, HSP2, HCE2, HSW4⟩
end Go.Proofs.Ytclgnefeankbgaa.M
