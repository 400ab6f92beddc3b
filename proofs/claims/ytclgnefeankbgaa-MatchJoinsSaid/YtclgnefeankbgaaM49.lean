/- MatchAlone: the walk. Conditions: as each theorem says. -/
import Derived.Test.YtclgnefeankbgaaM46
namespace Go.Proofs.Ytclgnefeankbgaa.M
open Go Go.RowKit Go.Proofs.YtclgnefeankbgaaW.PrintWords Go.Proofs.YtclgnefeankbgaaW.PrintLast Go.Proofs.YtclgnefeankbgaaW.PrintMore Hand
attribute [local go_sem] Oper.semAt_some max2_int min2_int max_two min_two max_three min_three max_four min_four
set_option linter.unusedVariables false
set_option linter.unusedSimpArgs false
theorem slice_inj {g g2 : Option Nat} {n n2 c c2 : Nat} (h : Value.slice (g.map fun g => (⟨g, 0, none⟩ : Addr)) n c = .slice (g2.map fun g => ⟨g, 0, none⟩) n2 c2) : g = g2 := by
  injection h with e1 _ _
  cases g <;> cases g2 <;> simp at e1 <;> simp_all
theorem RP.cell {w : World} {base : Nat} {g : Option Nat} {L c : Nat} {l : List (Int × Int)} (h : RP w base (.slice (g.map fun g => ⟨g, 0, none⟩) L c) l) {i : Nat} (hi : i < l.length) : ∃ b, g = some b ∧ w.cell? ⟨b, i * 2, none⟩ = some (.int .i64 (l.getD i (0, 0)).1) ∧ w.cell? ⟨b, i * 2 + 1, none⟩ = some (.int .i64 (l.getD i (0, 0)).2) := by
  obtain ⟨g2, c2, hv, _, hc⟩ := h.at_
  obtain ⟨b, hb, k⟩ := hc i hi
  exact ⟨b, (slice_inj hv).trans hb, k⟩
theorem RI.cell {w : World} {base : Nat} {g : Option Nat} {L c : Nat} {l : List Int} (h : RI w base (.slice (g.map fun g => ⟨g, 0, none⟩) L c) l) {i : Nat} (hi : i < l.length) : ∃ b, g = some b ∧ w.cell? ⟨b, i, none⟩ = some (.int .i64 (l.getD i 0)) := by
  obtain ⟨g2, c2, hv, _, hc⟩ := h.at_
  obtain ⟨b, hb, k⟩ := hc i hi
  exact ⟨b, (slice_inj hv).trans hb, k⟩
theorem RB.cell {w : World} {base : Nat} {g : Option Nat} {L c : Nat} {l : List (List Int)} (h : RB w base (.slice (g.map fun g => ⟨g, 0, none⟩) L c) l) {i : Nat} (hi : i < l.length) : ∃ b A' c', g = some b ∧ w.cell? ⟨b, i, none⟩ = some (.slice A' (l.getD i []).length c') ∧ Kd.C (Kd.int .u8) w A' (l.getD i []).length (l.getD i []) := by
  obtain ⟨inner, hin⟩ := Kd.R_own h
  obtain ⟨A, cc, hv, hl, hC⟩ := Kd.R_reads h
  rcases hin.2 with ⟨hn, h0⟩ | ⟨b, cap, cur, hv2, hg, _⟩
  · omega
  · rw [hv2] at hv
    obtain ⟨ad, A', c', h1, h2, h3⟩ := slice_at hC hi
    cases hv
    cases h1
    have ea : ((⟨b, 0, none⟩ : Addr).add i) = ⟨b, i, none⟩ := by unfold Addr.add; split <;> simp_all
    rw [ea] at h2
    exact ⟨b, A', c', slice_inj (g2 := some b) hv2, h2, h3⟩
theorem strOfNums_app (a b : List Int) : strOfNums a ++ strOfNums b = strOfNums (a ++ b) := by
  apply ByteArray.ext
  rw [ByteArray.data_append]
  unfold strOfNums
  simp
/-- What the law's walk has. -/
structure LW (W w : World) (pp : Nat) (s : ByteArray) (z : Int) (xs : List ST) (bk : Option Nat) (base : Nat) (v : Value) (l : List (Int × Int)) : Prop where
  pt : PT w pp s z xs bk
  row : RP w base v l
  hb : Below W.heap.size W w
theorem LW.call {W w w' : World} {pp : Nat} {s : ByteArray} {z : Int} {xs : List ST} {bk : Option Nat} {base : Nat} {v : Value} {l : List (Int × Int)} (h : LW W w pp s z xs bk base v l) (hb : Below w.heap.size w w') : LW W w' pp s z xs bk base v l := ⟨h.pt.call hb, h.row.call hb, h.hb.trans (hb.mono h.hb.size)⟩
/-- A number is among the first ones. -/
def inF (l : List Int) (j : Int) (k : Nat) : Bool := (l.take k).any (· == j)
theorem inF_step {l : List Int} {j : Int} {k : Nat} (hk : k < l.length) : inF l j (k + 1) = (inF l j k || (l.getD k 0 == j)) := by
  unfold inF
  rw [List.take_add_one, List.any_append, List.getElem?_eq_getElem hk, List.getD_eq_getElem?_getD, List.getElem?_eq_getElem hk]
  simp
theorem inF_last {l : List Int} {j : Int} (h0 : 0 < l.length) (h : l.getD (l.length - 1) 0 = j) : inF l j l.length = true := by
  obtain ⟨n, hn⟩ : ∃ n, l.length = n + 1 := ⟨l.length - 1, by omega⟩
  rw [hn] at h ⊢
  rw [inF_step (by omega)]
  have e : n + 1 - 1 = n := rfl
  rw [e] at h
  rw [h]
  simp
/-- Where the joining of the parts stands. -/
def LS (xs : List ST) (bs : List Int) (l : List (Int × Int)) (parts : List (List Int)) (i : Nat) (acc : List Int) : Prop :=
  (∃ at_, i ≤ l.length ∧ acc = bs.take at_ ∧ at_ ≤ bs.length ∧ ChE xs bs at_ (l.drop i) (bs.length + 1) ∧ parts.drop i = splitL bs (l.drop i) at_) ∨ (i = l.length + 1 ∧ acc = bs)
theorem LS.last {xs : List ST} {bs : List Int} {l : List (Int × Int)} {parts : List (List Int)} {acc : List Int} (h : LS xs bs l parts l.length acc) : acc ++ parts.getD l.length [] = bs := by
  rcases h with ⟨at_, _, rfl, h1, _, h3⟩ | ⟨h, _⟩
  · rw [List.drop_length, splitL] at h3
    have e : parts.getD l.length [] = bs.drop at_ := by
      have := congrArg (fun x => x[0]?) h3
      simp only [List.getElem?_drop, Nat.add_zero, List.getElem?_cons_zero] at this
      rw [List.getD_eq_getElem?_getD, this]
      rfl
    rw [e, List.take_append_drop]
  · omega
theorem LS.more {xs : List ST} {bs : List Int} {l : List (Int × Int)} {parts : List (List Int)} {i : Nat} {acc : List Int} (h : LS xs bs l parts i acc) (hi : i < l.length) : ∃ m j : Nat, l.getD i (0, 0) = ((m : Int), (j : Int)) ∧ m ≤ j ∧ j ≤ bs.length ∧ LS xs bs l parts (i + 1) ((acc ++ parts.getD i []) ++ (bs.take j).drop m) ∧ ((acc ++ parts.getD i []) ++ (bs.take j).drop m).length ≤ bs.length := by
  rcases h with ⟨at_, _, rfl, h1, h2, h3⟩ | ⟨h, _⟩
  · have hd : l.drop i = l.getD i (0, 0) :: l.drop (i + 1) := by
      rw [List.drop_eq_getElem_cons hi, List.getD_eq_getElem?_getD, List.getElem?_eq_getElem hi]
      rfl
    rw [hd] at h2 h3
    obtain ⟨⟨p, q⟩, hpq⟩ : ∃ x, l.getD i (0, 0) = x := ⟨_, rfl⟩
    rw [hpq] at h2 h3
    obtain ⟨m, j, rfl, rfl, h4, ⟨h5, h6, _, _⟩, h7⟩ := h2
    rw [splitL, Int.toNat_natCast, Int.toNat_natCast] at h3
    have e0 : parts.getD i [] = (bs.take m).drop at_ := by
      have := congrArg (fun x => x[0]?) h3
      simp only [List.getElem?_drop, Nat.add_zero, List.getElem?_cons_zero] at this
      rw [List.getD_eq_getElem?_getD, this]
      rfl
    have e1 : parts.drop (i + 1) = splitL bs (l.drop (i + 1)) j := by
      have := congrArg List.tail h3
      rw [List.tail_drop] at this
      exact this
    suffices key : (bs.take at_ ++ parts.getD i []) ++ (bs.take j).drop m = bs.take j by
      exact ⟨m, j, hpq, h5, h6, .inl ⟨j, by omega, key, h6, h7, e1⟩, by rw [key, List.length_take]; omega⟩
    rw [e0]
    have k1 : bs.take at_ ++ (bs.take m).drop at_ = bs.take m := by
      have := List.take_append_drop at_ (bs.take m)
      rw [List.take_take, Nat.min_eq_left h4] at this
      exact this
    rw [k1]
    have := List.take_append_drop m (bs.take j)
    rw [List.take_take, Nat.min_eq_left h5] at this
    exact this
  · omega
theorem LS.done {xs : List ST} {bs : List Int} {l : List (Int × Int)} {parts : List (List Int)} {acc : List Int} (h : LS xs bs l parts (l.length + 1) acc) : acc = bs := by
  rcases h with ⟨_, h, _⟩ | ⟨_, h⟩
  · omega
  · exact h
theorem LS.start {xs : List ST} {bs : List Int} {l : List (Int × Int)} (h : ChE xs bs 0 l (bs.length + 1)) : LS xs bs l (splitL bs l 0) 0 [] := .inl ⟨0, Nat.zero_le _, rfl, Nat.zero_le _, h, rfl⟩
theorem ChE.at_ {xs : List ST} {bs : List Int} : ∀ {l : List (Int × Int)} {a e : Nat}, ChE xs bs a l e → ∀ i, i < l.length → ∃ (b m j : Nat), l.getD i (0, 0) = ((m : Int), (j : Int)) ∧ IsM xs bs m j ∧ b ≤ m ∧ ChE xs bs b (l.drop i) e ∧ ChE xs bs j (l.drop (i + 1)) e
  | [], a, e, h, i, hi => by simp at hi
  | (p, q) :: r, a, e, ⟨m, j, h1, h2, h3, h4, h5⟩, 0, hi => ⟨a, m, j, by rw [h1, h2]; rfl, h4, h3, ⟨m, j, h1, h2, h3, h4, h5⟩, h5⟩
  | (p, q) :: r, a, e, ⟨m, j, h1, h2, h3, h4, h5⟩, i + 1, hi => by
    obtain ⟨b, m2, j2, k1, k2, k3, k4, k5⟩ := ChE.at_ h5 i (by simpa using hi)
    exact ⟨b, m2, j2, k1, k2, k3, k4, k5⟩
set_option maxHeartbeats 16000000 in
set_option maxRecDepth 100000 in
theorem MatchAlone.small (s : ByteArray) (A : Option Addr) (n c : Nat) (W : World) (h : 32768 < s.size ∨ 300 < n) : Calls Try.prog 7 #[.string s, .slice A n c] W fun e w' => e = .returned (.bool true) ∧ Below W.heap.size W w' := by
  have HK := Aside0.mk known.calls
  by_cases c1 : 32768 < s.size
  · have d1 : decide ((32768 : Int) < (s.size : Int)) = true := decide_eq_true (by omega)
    have d2 : decide (32768 < s.size) = true := decide_eq_true c1
    clear h
    go_enter Try.func7, Try.ntmps7
    go_wp2_with (go_at_call 9; (with_reducible refine (HK.out _).mono ?_); rintro e w1 ⟨rfl, hb⟩; have HB := Aside0.mk hb; clear hb)
    go_ret
    exact ⟨rfl, HB.out⟩
  · have d1 : decide ((32768 : Int) < (s.size : Int)) = false := decide_eq_false (by omega)
    have d2 : decide (32768 < s.size) = false := decide_eq_false c1
    have c2 : 300 < n := by omega
    have d3 : decide ((300 : Int) < (n : Int)) = true := decide_eq_true (by omega)
    have d4 : decide (300 < n) = true := decide_eq_true c2
    clear h
    go_enter Try.func7, Try.ntmps7
    go_wp2_with (go_at_call 9; (with_reducible refine (HK.out _).mono ?_); rintro e w1 ⟨rfl, hb⟩; have HB := Aside0.mk hb; clear hb)
    go_ret
    exact ⟨rfl, HB.out⟩
set_option maxHeartbeats 16000000 in
set_option maxRecDepth 100000 in
theorem MatchAlone.wrong (s : ByteArray) (A : Option Addr) (n c : Nat) (W : World) (h : s.size ≤ 32768) (hn : n ≤ 300) (k p : Int) (hk : k ≠ 0) (hp : ∀ W', Calls Try.prog 10 #[.string s, .bool false] W' fun e w' => e = .returned (.tuple #[.pointer none, .int .i64 p, .int .i64 k]) ∧ Below W'.heap.size W' w') : Calls Try.prog 7 #[.string s, .slice A n c] W fun e w' => e = .returned (.bool true) ∧ Below W.heap.size W w' := by
  have HK := Aside0.mk known.calls
  have HP := Aside0.mk hp
  have d1 : decide ((32768 : Int) < (s.size : Int)) = false := decide_eq_false (by omega)
  have d2 : decide (32768 < s.size) = false := decide_eq_false (by omega)
  have d3 : decide ((300 : Int) < (n : Int)) = false := decide_eq_false (by omega)
  have d4 : decide (300 < n) = false := decide_eq_false (by omega)
  have k1 : (k == 0) = false := beq_eq_false_iff_ne.2 hk
  have k2 : (k != 0) = true := by simp [hk]
  clear h hn hp
  go_enter Try.func7, Try.ntmps7
  go_wp2_with (first
    | (go_at_call 9; (with_reducible refine (HK.out _).mono ?_); rintro e w2 ⟨rfl, hb⟩; have HB2 := Aside0.mk (HB.out.trans (hb.mono HB.out.size)); clear hb)
    | (go_at_call 10; (with_reducible refine (HP.out _).mono ?_); rintro e w1 ⟨rfl, hb⟩; have HB := Aside0.mk hb; clear hb))
  go_ret
  exact ⟨rfl, HB2.out⟩
end Go.Proofs.Ytclgnefeankbgaa.M
namespace Go.Proofs.Ytclgnefeankbgaa.M
open Go Go.RowKit Go.Proofs.YtclgnefeankbgaaW.PrintWords Go.Proofs.YtclgnefeankbgaaW.PrintLast Go.Proofs.YtclgnefeankbgaaW.PrintMore Hand
attribute [local go_sem] Oper.semAt_some max2_int min2_int max_two min_two max_three min_three max_four min_four
set_option linter.unusedVariables false
set_option linter.unusedSimpArgs false
set_option maxHeartbeats 32000000 in
set_option maxRecDepth 100000 in
theorem MatchAlone.ok (s : ByteArray) (z : Int) (xs : List ST) (A : Option Addr) (c : Nat) (bs : List Int) (W : World) (hs : s.size ≤ 32768) (hb : BY W A bs) (hc : bs.length ≤ c) (hn : bs.length ≤ 300) (hr : parseR s false = .ok z xs) :
    Calls Try.prog 7 #[.string s, .slice A bs.length c] W fun e w' => e = .returned (.bool true) ∧ Below W.heap.size W w' := by
  have hp := fun W' => Parse.callsT s false W' (by omega)
  simp only [hr] at hp
  have hal := fun pp bk w h1 h2 => All.calls pp s z xs bk A c bs w h1 h2
  have hen : ∀ pp bk (at_ : Nat) w, at_ ≤ bs.length → PT w pp s z xs bk → BY w A bs → Calls Try.prog 11 #[.pointer (some ⟨pp, 0, none⟩), .slice A bs.length c, .int .i64 (at_ : Int)] w fun e w' => ∃ v, e = .returned v ∧ RI w' w.heap.size v (endsP xs bs at_) ∧ Below w.heap.size w w' := fun pp bk at_ w h0 h1 h2 => by
    have h := Ends.calls pp s z xs bk A c bs (at_ : Int) w h1 h2
    have e : endsI xs bs (at_ : Int) = endsP xs bs at_ := by
      unfold endsI
      rw [if_pos (by omega), Int.toNat_natCast]
    rw [e] at h
    exact h
  have hsp := fun w h => Split.ok s z xs A c bs w (by omega) h hc hr (by omega)
  have hch := allP_ch xs bs
  have hfi := allP_first xs bs
  have hcutm := cut_mid' A c bs.length bs rfl hc
  have hcs : ∀ (w : World) (A' : Option Addr) (n' c' : Nat) (ys : List Int), Kd.C (Kd.int .u8) w A' n' ys → (convert 23 9 (.slice A' n' c')).run Try.prog w = .ok (.string (strOfNums ys)) w := fun w A' n' c' ys h => Kd.C_string Try.underlying23 Try.underlying5 Try.underlying9 h
  obtain ⟨l, hl⟩ : ∃ l, allP xs bs = l := ⟨_, rfl⟩
  simp only [hl] at hal hch hfi hsp
  have hll := allP_len xs bs
  rw [hl] at hll
  obtain ⟨N, hN⟩ : ∃ N, bs.length = N := ⟨_, rfl⟩
  have HNN := Aside0.mk hN
  have HBW := Aside0.mk hb
  obtain ⟨L, hL⟩ : ∃ L, l.length = L := ⟨_, rfl⟩
  have HLL := Aside0.mk hL
  have hfst : ∃ F : Nat, F ≤ N + 1 ∧ (∀ k, k < F → endsP xs bs k = []) ∧ ((L = 0 ∧ F = N + 1) ∨ (0 < L ∧ (l.getD 0 (0, 0)).1 = (F : Int))) := by
    rcases hfi with ⟨h1, h2⟩ | ⟨i, q, r, h1, h2⟩
    · subst h1
      exact ⟨N + 1, Nat.le_refl _, fun k hk => h2 k (by omega), .inl ⟨hL.symm, rfl⟩⟩
    · rw [h1] at hch hL
      obtain ⟨m, j, e1, e2, _, ⟨h5, h6, _⟩, _⟩ := hch
      have e3 : m = i := by omega
      exact ⟨i, by omega, h2, .inr ⟨by rw [← hL]; exact Nat.succ_pos _, by rw [h1]; rfl⟩⟩
  obtain ⟨F, hF1, hF2, hF3⟩ := hfst
  simp only [hN] at hal hcutm hll hn hc hen hsp ⊢
  rw [hL] at hll
  have HP : Aside0 (∀ W', Calls Try.prog 10 #[.string s, .bool false] W' fun e w' => ∃ g b, e = .returned (.tuple #[.pointer (some ⟨g, 0, none⟩), .int .i64 0, .int .i64 0]) ∧ PT w' g s z xs b ∧ Below W'.heap.size W' w') := ⟨hp⟩
  have HAL := Aside0.mk hal
  have HEN := Aside0.mk hen
  have HSP := Aside0.mk hsp
  have HCH := Aside0.mk hch
  have HCM := Aside0.mk hcutm
  have HCS := Aside0.mk hcs
  have HF := Aside0.mk (And.intro hF1 (And.intro hF2 hF3))
  have HK := Aside0.mk known.calls
  have d1 : decide ((32768 : Int) < (s.size : Int)) = false := decide_eq_false (by omega)
  have d2 : decide (32768 < s.size) = false := decide_eq_false (by omega)
  have d3 : decide ((300 : Int) < (N : Int)) = false := decide_eq_false (by omega)
  have d4 : decide (300 < N) = false := decide_eq_false (by omega)
  have hLb : L ≤ 302 := by omega
  have HCE0 : Aside0 (ChE xs bs 0 (l.drop 0) (bs.length + 1)) := ⟨by rw [List.drop_zero]; exact HCH.out⟩
  clear hp hal hen hsp hch hfi hcutm hcs hll hl hL hN hF1 hF2 hF3 hb hs hr hc
  go_enter Try.func7, Try.ntmps7
  go_wp2_with (first
    | (go_at_call 24; (with_reducible refine (HAL.out g b _ HT.out (HBW.out.call HB.out)).mono ?_); rintro e w2 ⟨vl, rfl, hrow, hb2⟩; have hform := hrow.at_; obtain ⟨gl, cl, hvl, _, _⟩ := hform; rw [HLL.out] at hvl; subst hvl; have HLW := Aside0.mk (LW.mk (HT.out.call hb2) hrow (HB.out.trans (hb2.mono HB.out.size))); clear hrow hb2)
    | (go_at_call 10; (with_reducible refine (HP.out _).mono ?_); rintro e w1 ⟨g, b, rfl, ht, hb⟩; have HT := Aside0.mk ht; have HB := Aside0.mk hb; clear ht hb))
  go_loopg [9, 10] L (fun kq v9 v10 w' => ∃ i bf : Nat, v9 = .int .i64 (bf : Int) ∧ v10 = .int .i64 (i : Int) ∧ i + kq = L ∧ Aside0 (ChE xs bs bf (l.drop i) (bs.length + 1)) ∧ Aside0 (LW W w' g s z xs b w1.heap.size (.slice (gl.map fun g => ⟨g, 0, none⟩) L cl) l))
  case atStart => exact ⟨0, 0, rfl, rfl, by omega, HCE0, HLW⟩
  case round =>
    clear HCE0 HLW
    obtain ⟨i, bf, rfl, rfl, hik, HCE, HLW⟩ := hrel
    cases gk with
    | zero =>
      have e1 : decide ((i : Int) < (L : Int)) = false := decide_eq_false (by omega)
      have e2 : decide (i < L) = false := decide_eq_false (by omega)
      obtain ⟨hF1, hF2, hF3⟩ := HF.out
      have HF2 := Aside0.mk hF2
      obtain ⟨VL, hVL⟩ : ∃ v, Value.slice (gl.map fun g => (⟨g, 0, none⟩ : Addr)) L cl = v := ⟨_, rfl⟩
      have HVL := Aside0.mk hVL
      have hlw := HLW.out
      rw [hVL] at hlw
      have HLV := Aside0.mk hlw
      clear hVL hlw
      have hFb : F ≤ 301 := by omega
      clear HCE hik hF2
      by_cases cL : L = 0
      case' pos =>
        have wF : IntKind.i64.wrap ((N : Int) + 1) = (F : Int) := by
          rcases hF3 with ⟨_, h⟩ | ⟨h, _⟩
          · rw [IntKind.wrap_i64]; omega
          · omega
        have f1 : decide ((0 : Int) < (L : Int)) = false := decide_eq_false (by omega)
        have f2 : decide (0 < L) = false := decide_eq_false (by omega)
      case' neg =>
        have f1 : decide ((0 : Int) < (L : Int)) = true := decide_eq_true (by omega)
        have f2 : decide (0 < L) = true := decide_eq_true (by omega)
        have wF : IntKind.i64.wrap ((N : Int) + 1) = (N : Int) + 1 := by rw [IntKind.wrap_i64]; omega
        have hl0 : (l.getD 0 (0, 0)).1 = (F : Int) := by
          rcases hF3 with ⟨h, _⟩ | ⟨_, h⟩
          · exact absurd h cL
          · exact h
        have hx : 0 < L := by omega
        obtain ⟨bl0, hgl0, k0, _⟩ := HLW.out.row.cell (i := 0) (by rw [HLL.out]; exact hx)
        rw [hl0, Nat.zero_mul] at k0
        subst hgl0
        clear hl0
        have hx2 : (0 : Int) < (L : Int) := by omega
      all_goals (
        clear hF3 cL
        go_wp2
        go_loopg [15] F (fun kq v15 w' => ∃ at_ : Nat, v15 = .int .i64 (at_ : Int) ∧ at_ + kq = F ∧ Aside0 (LW W w' g s z xs b w1.heap.size VL l)))
      all_goals try (case atStart => exact ⟨0, rfl, by omega, HLV⟩)
      all_goals (
        case round =>
          (try clear k0)
          (try clear hx hx2)
          clear wF f1 f2
          obtain ⟨at_, rfl, hak, HLW2⟩ := hrel
          cases gk with
          | succ q =>
            have h1 : at_ < F := by omega
            have h2 : at_ ≤ N := by omega
            have g1 : decide ((at_ : Int) < (F : Int)) = true := decide_eq_true (by omega)
            have g2 : decide (at_ < F) = true := decide_eq_true h1
            have g3 : decide ((at_ : Int) ≤ (N : Int)) = true := decide_eq_true (by omega)
            have g4 : decide (at_ ≤ N) = true := decide_eq_true h2
            have wa : IntKind.i64.wrap ((at_ : Int) + 1) = (at_ : Int) + 1 := by rw [IntKind.wrap_i64]; omega
            have he := HF2.out at_ h1
            have hec : ∀ w, PT w g s z xs b → BY w A bs → Calls Try.prog 11 #[.pointer (some ⟨g, 0, none⟩), .slice A N c, .int .i64 (at_ : Int)] w fun e w' => ∃ (ge : Option Nat) (ce : Nat), e = .returned (.slice (ge.map fun g => ⟨g, 0, none⟩) 0 ce) ∧ Below w.heap.size w w' := fun w h3 h4 => (HEN.out g b at_ w h2 h3 h4).mono (by
              rintro e w' ⟨v, rfl, hr, hb⟩
              rw [he] at hr
              obtain ⟨ge, ce, hv, _⟩ := hr.at_
              exact ⟨ge, ce, by rw [hv]; rfl, hb⟩)
            have HEC := Aside0.mk hec
            have haq : at_ + 1 + q = F := by omega
            clear he hec
            go_wp2_with (go_at_call 11; (with_reducible refine (HEC.out _ HLW2.out.pt (HBW.out.call HLW2.out.hb)).mono ?_); rintro e w3 ⟨ge, ce, rfl, hb3⟩; have HLW3 := Aside0.mk (HLW2.out.call hb3); clear hb3)
            go_roundg q
            case measure => omega
            case rel => exact ⟨at_ + 1, rfl, haq, HLW3⟩
          | zero =>
            have g1 : decide ((at_ : Int) < (F : Int)) = false := decide_eq_false (by omega)
            have g2 : decide (at_ < F) = false := decide_eq_false (by omega)
            have w3 : IntKind.i64.wrap ((L : Int) + 1) = (L : Int) + 1 := by rw [IntKind.wrap_i64]; omega
            obtain ⟨parts, hpa⟩ : ∃ y, splitL bs l 0 = y := ⟨_, rfl⟩
            have hpl := splitL_len bs l 0
            rw [hpa, HLL.out] at hpl
            have HPL := Aside0.mk hpl
            have hsc : ∀ w, BY w A bs → Calls Try.prog 28 #[.string s, .slice A N c] w fun e w' => ∃ v, e = .returned (.tuple #[v, .int .i64 0]) ∧ RB w' w.heap.size v parts ∧ Below w.heap.size w w' := fun w h => by
              have := HSP.out w h
              rw [hpa] at this
              exact this
            have HSC := Aside0.mk hsc
            have hls : LS xs bs l parts 0 [] := by rw [← hpa]; exact LS.start HCH.out
            have HLS := Aside0.mk hls
            clear hpa hpl hsc hls hak
            go_wp2_with (go_at_call 28; (with_reducible refine (HSC.out _ (HBW.out.call HLW2.out.hb)).mono ?_); rintro e w4 ⟨vp, rfl, hrb, hb4⟩; obtain ⟨gp, cp, hvp⟩ := RB.form hrb; rw [HPL.out] at hvp; subst hvp; have HLW4 := Aside0.mk (HLW2.out.call hb4); have HRB := Aside0.mk hrb; clear hrb hb4)
            go_loopg [18, 19] (L + 1) (fun kq v18 v19 w' => ∃ (i2 : Nat) (acc : List Int), v18 = .string (strOfNums acc) ∧ v19 = .int .i64 (i2 : Int) ∧ i2 + kq = L + 1 ∧ Aside0 (LS xs bs l parts i2 acc) ∧ Aside0 (LW W w' g s z xs b w1.heap.size VL l) ∧ Aside0 (∃ base, RB w' base (.slice (gp.map fun g => ⟨g, 0, none⟩) (L + 1) cp) parts))
            case atStart => exact ⟨0, [], rfl, rfl, by omega, HLS, HLW4, ⟨⟨_, HRB.out⟩⟩⟩
            case round =>
              clear HLS HLW4 HRB
              obtain ⟨i2, acc, rfl, rfl, hik, HLS, HLW5, HRB⟩ := hrel
              cases gk with
              | zero =>
                have g3 : decide ((i2 : Int) < (L : Int) + 1) = false := decide_eq_false (by omega)
                have g4 : decide (i2 < L + 1) = false := decide_eq_false (by omega)
                have hacc : acc = bs := by
                  have h := HLS.out
                  have e : i2 = l.length + 1 := by rw [HLL.out]; omega
                  rw [e] at h
                  exact h.done
                subst hacc
                have kc : (convert 23 9 (.slice A N c)).run Try.prog wr = .ok (.string (strOfNums acc)) wr := HCS.out wr A N c acc (by
                  have := (HBW.out.call HLW5.out.hb).C
                  rw [HNN.out] at this
                  exact this)
                clear hik
                go_wp2_with (go_at_call 9; (with_reducible refine (HK.out _).mono ?_); rintro e w9 ⟨rfl, hb⟩; have HB9 := Aside0.mk (HLW5.out.hb.trans (hb.mono HLW5.out.hb.size)); clear hb)
                go_ret
                exact ⟨rfl, HB9.out⟩
              | succ q =>
                have h1 : i2 < L + 1 := by omega
                have g3 : decide ((i2 : Int) < (L : Int) + 1) = true := decide_eq_true (by omega)
                have g4 : decide (i2 < L + 1) = true := decide_eq_true h1
                have u2 : (0 : Int) ≤ (i2 : Int) := by omega
                have u3 : (i2 : Int) < (L : Int) + 1 := by omega
                have wi : IntKind.i64.wrap ((i2 : Int) + 1) = (i2 : Int) + 1 := by rw [IntKind.wrap_i64]; omega
                obtain ⟨base, hrb⟩ := HRB.out
                obtain ⟨bp, A', c', hgp, y0, hC⟩ := hrb.cell (i := i2) (by rw [HPL.out]; exact h1)
                obtain ⟨part, hpt⟩ : ∃ y, parts.getD i2 [] = y := ⟨_, rfl⟩
                have HPT := Aside0.mk hpt
                rw [hpt] at y0 hC
                obtain ⟨M, hM⟩ : ∃ n, part.length = n := ⟨_, rfl⟩
                rw [hM] at y0 hC
                have kc := HCS.out wr A' M c' part hC
                have sa := strOfNums_app acc part
                subst hgp
                clear hrb hC hM hpt
                have hiq : i2 + 1 + q = L + 1 := by omega
                by_cases cL2 : i2 = L
                · have g5 : decide ((i2 : Int) < (L : Int)) = false := decide_eq_false (by omega)
                  have g6 : decide (i2 < L) = false := decide_eq_false (by omega)
                  have hls : LS xs bs l parts (i2 + 1) (acc ++ part) := by
                    have h := HLS.out
                    have e : i2 = l.length := by rw [HLL.out]; exact cL2
                    rw [e] at h ⊢
                    have h2 := h.last
                    rw [← e, HPT.out] at h2
                    exact .inr ⟨rfl, h2⟩
                  have HLS2 := Aside0.mk hls
                  have zz : (strOfNums acc).size + (strOfNums part).size ≤ 9223372036854775807 := by
                    have h := HLS.out
                    have e : i2 = l.length := by rw [HLL.out]; exact cL2
                    rw [e] at h
                    have h2 := congrArg List.length h.last
                    rw [← e, HPT.out, List.length_append] at h2
                    rw [strOfNums_size, strOfNums_size, h2, HNN.out]
                    omega
                  clear hls cL2 hik
                  go_wp2
                  go_roundg q
                  case measure => omega
                  case rel => exact ⟨i2 + 1, acc ++ part, rfl, rfl, hiq, HLS2, HLW5, HRB⟩
                · have hiL : i2 < L := by omega
                  have g5 : decide ((i2 : Int) < (L : Int)) = true := decide_eq_true (by omega)
                  have g6 : decide (i2 < L) = true := decide_eq_true hiL
                  have u5 : (i2 : Int) < (L : Int) := by omega
                  have hlen : i2 < l.length := by rw [HLL.out]; exact hiL
                  obtain ⟨m, j, hpq, h2, h3, h4, h5⟩ := HLS.out.more hlen
                  rw [HPT.out] at h4 h5
                  rw [List.length_append, List.length_append, HNN.out] at h5
                  have zz : (strOfNums acc).size + (strOfNums part).size ≤ 9223372036854775807 := by rw [strOfNums_size, strOfNums_size]; omega
                  have zz2 : (strOfNums (acc ++ part)).size + (strOfNums ((bs.take j).drop m)).size ≤ 9223372036854775807 := by rw [strOfNums_size, strOfNums_size, List.length_append]; omega
                  have hrow := HLW5.out.row
                  rw [← HVL.out] at hrow
                  obtain ⟨bl, hgl, k0, k1⟩ := hrow.cell hlen
                  rw [hpq] at k0 k1
                  have hjN : j ≤ N := by rw [← HNN.out]; exact h3
                  obtain ⟨A9, hcut, hcd⟩ := HCM.out m j h2 hjN
                  have hbyc : ∀ w, BY w A bs → Kd.C (Kd.int .u8) w A N bs := fun w h => by
                    have := h.C
                    rw [HNN.out] at this
                    exact this
                  have kc2 : ∀ n, (convert 23 9 (.slice A9 (j - m) (c - m))).run Try.prog (wr.drewN n) = .ok (.string (strOfNums ((bs.take j).drop m))) (wr.drewN n) := fun n => HCS.out _ A9 _ _ _ (hcd _ (hbyc _ ((HBW.out.call HLW5.out.hb).call (below_drewN wr n))))
                  have sb := strOfNums_app (acc ++ part) ((bs.take j).drop m)
                  have HLS2 := Aside0.mk h4
                  first
                    | subst hgl
                    | cases hgl
                  clear hrow hpq h2 h3 h4 h5 hcd hbyc hik cL2
                  go_wp2
                  go_quiet (fail)
                  have HLW6 := Aside0.mk (HLW5.out.call (below_drewN wr nq))
                  have HRB6 : Aside0 (∃ base, RB (wr.drewN nq) base (.slice ((some bp).map fun g => ⟨g, 0, none⟩) (L + 1) cp) parts) := ⟨by
                    obtain ⟨base, h⟩ := HRB.out
                    exact ⟨base, h.call (below_drewN wr nq)⟩⟩
                  go_wp2
                  go_roundg q
                  case measure => omega
                  case rel => exact ⟨i2 + 1, (acc ++ part) ++ (bs.take j).drop m, by rw [List.append_assoc], rfl, hiq, HLS2, HLW6, HRB6⟩)
    | succ q =>
      have hiL : i < L := by omega
      have e1 : decide ((i : Int) < (L : Int)) = true := decide_eq_true (by omega)
      have e2 : decide (i < L) = true := decide_eq_true hiL
      have i0 : (0 : Int) ≤ (i : Int) := by omega
      have i1 : (i : Int) < (L : Int) := by omega
      have wi : IntKind.i64.wrap ((i : Int) + 1) = (i : Int) + 1 := by rw [IntKind.wrap_i64]; omega
      have hlen : i < l.length := by rw [HLL.out]; exact hiL
      obtain ⟨bl, hgl, k0, k1⟩ := HLW.out.row.cell hlen
      have hd : l.drop i = l.getD i (0, 0) :: l.drop (i + 1) := by
        rw [List.drop_eq_getElem_cons hlen, List.getD_eq_getElem?_getD, List.getElem?_eq_getElem hlen]
        rfl
      obtain ⟨⟨p, q2⟩, hpq⟩ : ∃ x, l.getD i (0, 0) = x := ⟨_, rfl⟩
      have HPQ := Aside0.mk hpq
      have hce := HCE.out
      rw [hd, hpq] at hce
      rw [hpq] at k0 k1
      obtain ⟨m, j, rfl, rfl, h1, ⟨h2, h3, h4, h5⟩, h6⟩ := hce
      have HCE2 := Aside0.mk h6
      have hjN : j ≤ N := by rw [← HNN.out]; exact h3
      have f1 : decide ((m : Int) < (bf : Int)) = false := decide_eq_false (by omega)
      have f2 : decide (m < bf) = false := decide_eq_false (by omega)
      have f3 : decide ((j : Int) < (m : Int)) = false := decide_eq_false (by omega)
      have f4 : decide (j < m) = false := decide_eq_false (by omega)
      have f5 : decide ((N : Int) < (j : Int)) = false := decide_eq_false (by omega)
      have f6 : decide (N < j) = false := decide_eq_false (by omega)
      obtain ⟨es, hes⟩ : ∃ es, endsP xs bs m = es := ⟨_, rfl⟩
      rw [hes] at h4 h5
      obtain ⟨LE, hLE⟩ : ∃ n, es.length = n := ⟨_, rfl⟩
      have HLE := Aside0.mk hLE
      have HES := Aside0.mk (And.intro h4 h5)
      have hlb := endsP_len xs bs m
      rw [hes, hLE, HNN.out] at hlb
      have hce2 : ∀ w, PT w g s z xs b → BY w A bs → Calls Try.prog 11 #[.pointer (some ⟨g, 0, none⟩), .slice A N c, .int .i64 (m : Int)] w fun e w' => ∃ v, e = .returned v ∧ RI w' w.heap.size v es ∧ Below w.heap.size w w' := fun w h1 h2 => by
        have := HEN.out g b m w (by omega) h1 h2
        rw [hes] at this
        exact this
      have HEC := Aside0.mk hce2
      have hiq : i + 1 + q = L := by omega
      subst hgl
      clear hd hpq h1 h2 h3 h4 h5 h6 hce2 hes hLE
      go_wp2
      go_quiet (fail)
      have HLW1 := Aside0.mk (HLW.out.call (below_drewN wr nq))
      obtain ⟨W1, hW1⟩ : ∃ x, wr.drewN nq = x := ⟨_, rfl⟩
      rw [hW1] at HLW1
      rw [hW1]
      obtain ⟨bl1, hgl1, k2, k3⟩ := HLW1.out.row.cell hlen
      cases hgl1
      rw [HPQ.out] at k2 k3
      clear hW1 k0 k1 HLW
      go_wp2_with (go_at_call 11; (with_reducible refine (HEC.out _ HLW1.out.pt (HBW.out.call HLW1.out.hb)).mono ?_); rintro e w3 ⟨ve, rfl, hre, hb3⟩; have hform := hre.at_; obtain ⟨ge, ce, hve, _, _⟩ := hform; rw [HLE.out] at hve; subst hve; have HLW3 := Aside0.mk (HLW1.out.call hb3); have HRE := Aside0.mk hre; clear hre hb3)
      have HLW1b : Aside0 (inF es (j : Int) 0 = false) := ⟨rfl⟩
      go_loopg [11, 13] LE (fun kq v11 v13 w' => ∃ (k : Nat) (t : Bool), v11 = .bool t ∧ v13 = .int .i64 (k : Int) ∧ k + kq = LE ∧ Aside0 (inF es (j : Int) k = t) ∧ Aside0 (LW W w' g s z xs b w1.heap.size (.slice ((some bl).map fun g => ⟨g, 0, none⟩) L cl) l) ∧ Aside0 (RI w' W1.heap.size (.slice (ge.map fun g => ⟨g, 0, none⟩) LE ce) es))
      case atStart => exact ⟨0, false, rfl, rfl, by omega, HLW1b, HLW3, HRE⟩
      case round =>
        clear HLW1b HLW3 HRE k2 k3 f1 f2 f3 f4 f5 f6
        obtain ⟨k, t, rfl, rfl, hkk, HIN, HLW3, HRE⟩ := hrel
        obtain ⟨bl3, hgl3, k2, k3⟩ := HLW3.out.row.cell hlen
        cases hgl3
        rw [HPQ.out] at k2 k3
        cases gk with
        | zero =>
          have e3 : decide ((k : Int) < (LE : Int)) = false := decide_eq_false (by omega)
          have e4 : decide (k < LE) = false := decide_eq_false (by omega)
          have hin := HIN.out
          have hk : k = es.length := by rw [HLE.out]; omega
          rw [hk, inF_last HES.out.1 HES.out.2] at hin
          subst hin
          obtain ⟨K, hK⟩ : ∃ K, LE = K + 1 := ⟨LE - 1, by have := HES.out.1; rw [HLE.out] at this; omega⟩
          obtain ⟨be, hge, y0⟩ := HRE.out.cell (i := K) (by rw [HLE.out]; omega)
          have hy := HES.out.2
          have e9 : es.length - 1 = K := by rw [HLE.out]; omega
          rw [e9] at hy
          rw [hy] at y0
          have u1 : IntKind.i64.wrap ((LE : Int) - 1) = (K : Int) := by rw [IntKind.wrap_i64]; omega
          have u2 : (0 : Int) ≤ (K : Int) := by omega
          have u3 : (K : Int) < (LE : Int) := by omega
          have u4 : K < LE := by omega
          subst hge
          clear hk hy e9 hK HIN hkk
          go_wp2
          go_quiet (fail)
          have HLW4 := Aside0.mk (HLW3.out.call (below_drewN wr nq))
          obtain ⟨W4, hW4⟩ : ∃ x, wr.drewN nq = x := ⟨_, rfl⟩
          rw [hW4] at HLW4
          rw [hW4]
          obtain ⟨bl4, hgl4, k4, k5⟩ := HLW4.out.row.cell hlen
          cases hgl4
          rw [HPQ.out] at k4 k5
          clear hW4 k2 k3 y0
          go_wp2
          go_roundg q
          case measure => omega
          case rel => exact ⟨i + 1, j, rfl, rfl, hiq, HCE2, HLW4⟩
        | succ q3 =>
          have hkL : k < LE := by omega
          have e3 : decide ((k : Int) < (LE : Int)) = true := decide_eq_true (by omega)
          have e4 : decide (k < LE) = true := decide_eq_true hkL
          have wk : IntKind.i64.wrap ((k : Int) + 1) = (k : Int) + 1 := by rw [IntKind.wrap_i64]; omega
          have u2 : (0 : Int) ≤ (k : Int) := by omega
          have u3 : (k : Int) < (LE : Int) := by omega
          obtain ⟨be, hge, y0⟩ := HRE.out.cell (i := k) (by rw [HLE.out]; exact hkL)
          have hst := inF_step (l := es) (j := (j : Int)) (k := k) (by rw [HLE.out]; exact hkL)
          rw [HIN.out] at hst
          obtain ⟨y, hy⟩ : ∃ y, es.getD k 0 = y := ⟨_, rfl⟩
          rw [hy] at y0 hst
          have hkq : k + 1 + q3 = LE := by omega
          subst hge
          clear hy hkk HIN
          cases t with
          | true =>
            have HIN2 : Aside0 (inF es (j : Int) (k + 1) = true) := ⟨by rw [hst]; rfl⟩
            clear hst
            go_wp2
            go_quiet (fail)
            have HLW4 := Aside0.mk (HLW3.out.call (below_drewN wr nq))
            have HRE4 := Aside0.mk (HRE.out.call (below_drewN wr nq))
            go_wp2
            go_roundg q3
            case measure => omega
            case rel => exact ⟨k + 1, true, rfl, rfl, hkq, HIN2, HLW4, HRE4⟩
          | false =>
            by_cases cy : y = (j : Int)
            · have c1 : (y == (j : Int)) = true := beq_iff_eq.2 cy
              have HIN2 : Aside0 (inF es (j : Int) (k + 1) = true) := ⟨by rw [hst, c1]; rfl⟩
              clear hst cy
              go_wp2
              go_quiet (fail)
              have HLW4 := Aside0.mk (HLW3.out.call (below_drewN wr nq))
              have HRE4 := Aside0.mk (HRE.out.call (below_drewN wr nq))
              go_wp2
              go_roundg q3
              case measure => omega
              case rel => exact ⟨k + 1, true, rfl, rfl, hkq, HIN2, HLW4, HRE4⟩
            · have c1 : (y == (j : Int)) = false := beq_eq_false_iff_ne.2 cy
              have HIN2 : Aside0 (inF es (j : Int) (k + 1) = false) := ⟨by rw [hst, c1]; rfl⟩
              clear hst cy
              go_wp2
              go_quiet (fail)
              have HLW4 := Aside0.mk (HLW3.out.call (below_drewN wr nq))
              have HRE4 := Aside0.mk (HRE.out.call (below_drewN wr nq))
              go_wp2
              go_roundg q3
              case measure => omega
              case rel => exact ⟨k + 1, false, rfl, rfl, hkq, HIN2, HLW4, HRE4⟩
end Go.Proofs.Ytclgnefeankbgaa.M
namespace Go.Proofs.Ytclgnefeankbgaa.M
open Go Go.RowKit Go.Proofs.YtclgnefeankbgaaW.PrintWords Go.Proofs.YtclgnefeankbgaaW.PrintLast Go.Proofs.YtclgnefeankbgaaW.PrintMore Hand
set_option linter.unusedVariables false
def IsRowX (w : World) (a : Option Addr) (len cap : Nat) (zs : List Int) : Prop := (a = none ∧ len = 0 ∧ cap = 0 ∧ zs = []) ∨ ∃ x, a = some x ∧ len ≤ cap ∧ cap ≤ maxLen ∧ zs.length = cap ∧ (∀ i, i < zs.length → w.cell? (x.add i) = some (.int .u8 (zs.getD i 0))) ∧ ∀ n ∈ zs, (Lit.int .u8 n).wf = true
/-- Bytes that are a parameter. -/
theorem BY.of {w : World} {a : Option Addr} {len cap : Nat} {zs : List Int} (h : IsRowX w a len cap zs) (hn : len ≤ 1000000) : ∃ bs : List Int, len = bs.length ∧ BY w a bs ∧ bs.length ≤ cap := by
  obtain ⟨l, rfl, hr, hm, hw, hc⟩ := ReadsInt.ofRowC h
  exact ⟨l, rfl, ⟨Kd.C_of_reads (d := (0 : Int)) (h1 := fun _ => rfl) hr, fun x hx => wf8 (hw x hx), hn⟩, hc⟩
theorem MatchAlone.walk (s : ByteArray) (a1 : Option Addr) (len1 cap1 : Nat) (z1 : List Int) (w : World) (ws : s.size ≤ maxLen) (w1 : IsRowX w a1 len1 cap1 z1) (y1 : len1 * 1 ≤ 140737488351232) :
    Calls Try.prog 7 #[.string s, .slice a1 len1 cap1] w fun e w' => e = .returned (.bool true) ∧ Below w.heap.size w w' := by
  by_cases h : 32768 < s.size ∨ 300 < len1
  · exact MatchAlone.small s a1 len1 cap1 w h
  · obtain ⟨bs, rfl, hb, hc⟩ := BY.of w1 (by omega)
    have hp := fun W' => Parse.callsT s false W' (by omega)
    cases hr : parseR s false with
    | large =>
      simp only [hr] at hp
      exact MatchAlone.wrong s a1 bs.length cap1 w (by omega) (by omega) 3 0 (by decide) hp
    | wrong n =>
      simp only [hr] at hp
      exact MatchAlone.wrong s a1 bs.length cap1 w (by omega) (by omega) 2 (n : Int) (by decide) hp
    | ok z xs => exact MatchAlone.ok s z xs a1 cap1 bs w (by omega) hb hc (by omega) hr
end Go.Proofs.Ytclgnefeankbgaa.M
