/- Laid by a program of this repo over the translation: each Go function as a plain Lean function with the proof that the call comes to its answers, or a statement's row out of these; conditions: the hypotheses of each theorem. -/
import Derived.Test.YtcinmodpfdehpaaPx0
import Derived.Test.YtcinmodpfdehpaaPx3
import Derived.Test.YtcinmodpfdehpaaPx4
namespace Go.Proofs.Ytcinmodpfdehpaa.P
open Go.RowKit Go.Proofs.YtcinmodpfdehpaaW.PrintWords Go.Proofs.YtcinmodpfdehpaaW.PrintLast Go.Proofs.YtcinmodpfdehpaaW.PrintMore
attribute [local go_sem] max2_int min2_int max_two min_two max_three min_three max_four min_four   -- for this text's walks alone
set_option linter.unusedVariables false
set_option linter.unusedSimpArgs false

/-! ### voice_Play: function 7 -/
-- EXT rounds=1 making=1
theorem w64P {n : Int} (h1 : -9223372036854775808 ≤ n) (h2 : n ≤ 9223372036854775807) : wrap64 n = n := by unfold wrap64; omega
abbrev RI (W : World) (b : Nat) (v : Value) (xs : List Int) : Prop := Kd.R (Kd.int .i64) 3 W b (fun _ => True) v xs
theorem RI_at {base m c : Nat} {w : World} {A : Option Addr} {xs : List Int} (h : RI w base (.slice A m c) xs) : Kd.C (Kd.int .i64) w A m xs ∧ m ≤ c := by
  obtain ⟨h1, h2, h3⟩ := Kd.R_reads' h
  rw [h1]
  exact ⟨h3, by rw [← h1]; exact h2⟩
theorem RI_addr {base m c : Nat} {w : World} {A : Option Addr} {xs : List Int} (h : RI w base (.slice A m c) xs) (h0 : 0 < xs.length) : ∃ g, A = some ⟨g, 0, none⟩ ∧ base ≤ g := by
  have ho := Kd.own_of_R (enc := Value.int .i64) (h1 := fun _ => rfl) h
  rcases ho.2 with ⟨hn, _⟩ | ⟨g, cap, cur, hvg, hbg, _⟩
  · omega
  · cases hvg
    exact ⟨g, rfl, hbg⟩
theorem RI_lt {W : World} {b : Nat} {v : Value} {xs : List Int} (h : RI W b v xs) (k : Nat) (hk : v.ownBlock = some k) : k < W.heap.size := own_lt (Kd.own_of_R (enc := Value.int .i64) (h1 := fun _ => rfl) h) k hk
theorem RI_ge {W : World} {b : Nat} {v : Value} {xs : List Int} (h : RI W b v xs) (k : Nat) (hk : v.ownBlock = some k) : b ≤ k := own_base (Kd.own_of_R (enc := Value.int .i64) (h1 := fun _ => rfl) h) k hk
theorem RI_gr {W w1 : World} {b : Nat} {v : Value} {xs : List Int} {row : Option Nat} (h : RI W b v xs) (hg : W.grownBy w1 row) (hne : ∀ k, v.ownBlock = some k → row ≠ some k) : RI w1 b v xs :=
  Kd.R_mono (Kd.R_grown (Kd.R_of_own (h1 := fun _ => rfl) (ok := fun k => row ≠ some k) (Kd.own_of_R (enc := Value.int .i64) (h1 := fun _ => rfl) h) hne) hg (fun k hk e => hk e.symm)) (fun _ _ => trivial)
theorem RI_far {W : World} {b : Nat} {v : Value} {xs : List Int} (h : RI W b v xs) {p : Addr} (hne : ∀ k, v.ownBlock = some k → k ≠ p.block) (u : Value) : RI (W.setCell p u) b v xs :=
  Kd.R_mono (Kd.R_far (Kd.R_of_own (h1 := fun _ => rfl) (ok := fun k => k ≠ p.block) (Kd.own_of_R (enc := Value.int .i64) (h1 := fun _ => rfl) h) hne) (fun _ hk => hk) u) (fun _ _ => trivial)
theorem RI_ne {W : World} {b P : Nat} {v : Value} {xs : List Int} {cs : Array Value} {T : TypeId} (h : RI W b v xs) (hb : W.heap[P]? = some (.cells cs T (0, 0))) (hT : T ≠ 3) : ∀ k, v.ownBlock = some k → k ≠ P := fun _ hk e => by
  subst e
  obtain ⟨cells, hc⟩ := own_typed (Kd.own_of_R (enc := Value.int .i64) (h1 := fun _ => rfl) h) _ hk
  have h2 := hb.symm.trans hc
  injection h2 with h2
  injection h2 with _ h2
  exact hT h2
theorem RI_below {W w1 : World} {b : Nat} {v : Value} {xs : List Int} (h : RI W b v xs) (hb : Below W.heap.size W w1) : RI w1 b v xs := Kd.R_below h hb
theorem lit_Ri (W : World) (base : Nat) (xs : List Int) (hb : base ≤ W.heap.size) (hl : xs.length ≤ 1000000) : RI (W.alloc (.cells (nums .i64 xs).toArray 3)) base (.slice (some ⟨W.heap.size, 0, none⟩) xs.length xs.length) xs :=
  Kd.R_of_own (h1 := fun _ => rfl) (ok := fun _ => True) (own_lit W base 3 .i64 xs hb (by omega)) (fun _ _ => trivial)
set_option maxHeartbeats 2000000 in
set_option maxRecDepth 100000 in
theorem cloneI.calls (ad : Addr) (c0 m0 : Nat) (l0 : List Int) (w : World) (hr0 : Kd.C (Kd.int .i64) w (some ad) m0 l0) (hbig : m0 ≤ 1000000) :
    Calls Try.prog 38 #[.slice (some ad) m0 c0] w fun e w' => ∃ v0_ : Value, e = .returned v0_ ∧ RI w' w.heap.size v0_ l0 ∧ Below w.heap.size w w' := by
  have q22 : ∀ (w : World) (a : Option Addr) (n c n' c' : Nat), (binOp .eql 26 (.slice a n c) (.slice none n' c')).run Try.prog w = .ok (.bool a.isNone) w := fun w a n c n' c' => Lib.run_eql_slice_nil w _ _ a n c n' c' Try.underlying26
  have HR0 := Aside0.mk hr0
  clear hr0
  go_enter Try.func38, Try.ntmps38
  go_wp2_with ((with_reducible refine gate_builtin (b := .append) (xs := #[.tmp 5, .tmp 6]) rfl ?_); at_builtin; refine Kd.R_append_rows (Kd.int .i64) (w0 := w) w.heap.size rfl (.tmp 5) (.tmp 6) 26 3 (.int .i64 0) 8 rfl Try.underlying26 info3 rfl (by decide) (by omega) _ [] l0 _ _ _ (fun _ => True) (fun _ => False) rfl rfl (lit_Ri w w.heap.size [] (Nat.le_refl _) (by simp)) (Kd.C_alloc HR0.out _) (fun _ _ h => h) (fun _ h => h.elim) (fun _ _ => trivial) (below_alloc (Below.refl _ _) _) ?aS ?aL ?_; (case aS => simp); (case aL => simp only [List.length_nil]; omega); intro v6 w6 ho hb _ _; have HO6 := Aside0.mk ho; have HB6 := Aside0.mk hb; clear ho hb)
  go_ret
  exact ⟨_, rfl, HO6.out, HB6.out⟩
/-- A player: its cells, and its three rows, each in a block of its own. -/
structure PS (W : World) (b P : Nat) (n : Nat) (last out gone : List Int) (vl vo vg : Value) : Prop where
  blk : W.heap[P]? = some (.cells #[.int .i64 n, vl, vo, vg] 49 (0, 0))
  le : b ≤ P
  rl : RI W b vl last
  ro : RI W b vo out
  rg : RI W b vg gone
  lo : ∀ k, vl.ownBlock = some k → vo.ownBlock ≠ some k
  lg : ∀ k, vl.ownBlock = some k → vg.ownBlock ≠ some k
  og : ∀ k, vo.ownBlock = some k → vg.ownBlock ≠ some k
section
variable {W w1 : World} {b P n : Nat} {last out gone : List Int} {vl vo vg v1 : Value}
theorem PS.below (h : PS W b P n last out gone vl vo vg) (hb : Below W.heap.size W w1) : PS w1 b P n last out gone vl vo vg := ⟨blk_below h.blk hb, h.le, RI_below h.rl hb, RI_below h.ro hb, RI_below h.rg hb, h.lo, h.lg, h.og⟩
theorem RI_belowR {bR : Nat} {v : Value} {xs : List Int} (h : RI W b v xs) (hb : Below bR W w1) (hs : ∀ k, v.ownBlock = some k → k < bR) : RI w1 b v xs :=
  Kd.R_mono (Kd.R_move (Kd.R_of_own (h1 := fun _ => rfl) (ok := fun k => k < bR) (Kd.own_of_R (enc := Value.int .i64) (h1 := fun _ => rfl) h) hs) (fun k hk => hb.block k hk)) (fun _ _ => trivial)
theorem PS.belowR {bR : Nat} (h : PS W b P n last out gone vl vo vg) (hb : Below bR W w1) (hP : P < bR) (hs : ∀ k, vl.ownBlock = some k ∨ vo.ownBlock = some k ∨ vg.ownBlock = some k → k < bR) : PS w1 b P n last out gone vl vo vg := ⟨(hb.block P hP).trans h.blk, h.le, RI_belowR h.rl hb (fun k hk => hs k (.inl hk)), RI_belowR h.ro hb (fun k hk => hs k (.inr (.inl hk))), RI_belowR h.rg hb (fun k hk => hs k (.inr (.inr hk))), h.lo, h.lg, h.og⟩
theorem PS.drewN (h : PS W b P n last out gone vl vo vg) (m : Nat) : PS (W.drewN m) b P n last out gone vl vo vg := ⟨h.blk, h.le, h.rl, h.ro, h.rg, h.lo, h.lg, h.og⟩
theorem PS.outA (h : PS W b P n last out gone vl vo vg) {out' : List Int} (ho : RI w1 b v1 out') (hg : W.grownBy w1 vo.ownBlock) (hat : v1.ownBlock = vo.ownBlock ∨ ∃ q, v1.ownBlock = some q ∧ W.heap.size ≤ q) : PS (w1.setCell ⟨P, 2, none⟩ v1) b P n last out' gone vl v1 vg := by
  have hP : w1.heap[P]? = _ := blk_grown h.blk hg (fun e => RI_ne h.ro h.blk (by decide) P e.symm rfl)
  have hl : RI w1 b vl last := RI_gr h.rl hg h.lo
  have hgn : RI w1 b vg gone := RI_gr h.rg hg (fun k hk e => h.og k e hk)
  refine ⟨blk_set hP 2 v1, h.le, RI_far hl (RI_ne hl hP (by decide)) _, RI_far ho (RI_ne ho hP (by decide)) _, RI_far hgn (RI_ne hgn hP (by decide)) _, ?_, h.lg, ?_⟩
  · intro k hk e
    rcases hat with e2 | ⟨q, e2, hq⟩
    · exact h.lo k hk (e2 ▸ e)
    · rw [e2] at e
      injection e with e
      have := RI_lt h.rl k hk
      omega
  · intro k hk e
    rcases hat with e2 | ⟨q, e2, hq⟩
    · exact h.og k (e2 ▸ hk) e
    · rw [e2] at hk
      injection hk with hk
      have := RI_lt h.rg k e
      omega
theorem PS.goneA (h : PS W b P n last out gone vl vo vg) {gone' : List Int} (ho : RI w1 b v1 gone') (hg : W.grownBy w1 vg.ownBlock) (hat : v1.ownBlock = vg.ownBlock ∨ ∃ q, v1.ownBlock = some q ∧ W.heap.size ≤ q) : PS (w1.setCell ⟨P, 3, none⟩ v1) b P n last out gone' vl vo v1 := by
  have hP : w1.heap[P]? = _ := blk_grown h.blk hg (fun e => RI_ne h.rg h.blk (by decide) P e.symm rfl)
  have hl : RI w1 b vl last := RI_gr h.rl hg h.lg
  have hgn : RI w1 b vo out := RI_gr h.ro hg h.og
  refine ⟨blk_set hP 3 v1, h.le, RI_far hl (RI_ne hl hP (by decide)) _, RI_far hgn (RI_ne hgn hP (by decide)) _, RI_far ho (RI_ne ho hP (by decide)) _, h.lo, ?_, ?_⟩
  · intro k hk e
    rcases hat with e2 | ⟨q, e2, hq⟩
    · exact h.lg k hk (e2 ▸ e)
    · rw [e2] at e
      injection e with e
      have := RI_lt h.rl k hk
      omega
  · intro k hk e
    rcases hat with e2 | ⟨q, e2, hq⟩
    · exact h.og k hk (e2 ▸ e)
    · rw [e2] at e
      injection e with e
      have := RI_lt h.ro k hk
      omega
theorem PS.lastA (h : PS W b P n last out gone vl vo vg) {last' : List Int} (ho : RI w1 W.heap.size v1 last') (hb : Below W.heap.size W w1) : PS (w1.setCell ⟨P, 1, none⟩ v1) b P n last' out gone v1 vo vg := by
  have hP : w1.heap[P]? = _ := blk_below h.blk hb
  have h1 := RI_below h.ro hb
  have h2 := RI_below h.rg hb
  have hbW : b ≤ W.heap.size := Nat.le_trans h.le (Nat.le_of_lt (blk_lt h.blk))
  have hl : RI w1 b v1 last' := Kd.R_lower ho hbW
  refine ⟨blk_set hP 1 v1, h.le, RI_far hl (RI_ne hl hP (by decide)) _, RI_far h1 (RI_ne h1 hP (by decide)) _, RI_far h2 (RI_ne h2 hP (by decide)) _, ?_, ?_, h.og⟩
  · intro k hk e
    have := RI_ge ho k hk
    have := RI_lt h.ro k e
    omega
  · intro k hk e
    have := RI_ge ho k hk
    have := RI_lt h.rg k e
    omega
theorem PS.halfA {gl m c : Nat} (h : PS W b P n last out gone (.slice (some ⟨gl, 0, none⟩) m c) vo vg) (i : Nat) (x : Int) : PS (W.setCell ⟨gl, i, none⟩ (.int .i64 x)) b P n (last.set i x) out gone (.slice (some ⟨gl, 0, none⟩) m c) vo vg := by
  have hne : gl ≠ P := RI_ne h.rl h.blk (by decide) gl rfl
  have hput := Kd.R_putn (enc := Value.int .i64) (h1 := fun _ => rfl) h.rl (i : Int) x
  rw [Int.toNat_natCast] at hput
  exact ⟨(Below.heap_setCell W ⟨gl, i, none⟩ _ P (fun e => hne e.symm)).trans h.blk, h.le, hput, RI_far (p := ⟨gl, i, none⟩) h.ro (fun k hk e => h.lo gl rfl (by rw [hk]; exact congrArg some e)) _, RI_far (p := ⟨gl, i, none⟩) h.rg (fun k hk e => h.lg gl rfl (by rw [hk]; exact congrArg some e)) _, h.lo, h.lg, h.og⟩
end
theorem cut_toI (A : Option Addr) (c m : Nat) (l : List Int) (hl : l.length = m) (hc : m ≤ c) (p : Nat) (hp : p ≤ m) : (∀ W : World, (Instr.slice 26 (.slice A m c) none (some (.int .i64 (p : Int))) none).run Try.prog W = .ok (.slice A p c) W) ∧ ∀ w : World, Kd.C (Kd.int .i64) w A m l → Kd.C (Kd.int .i64) w A p (l.take p) := by
  obtain ⟨i1, hi1, _, hsz1, _⟩ := info_parts info3
  subst hl
  obtain ⟨hcut, hC, _⟩ := print_take_of (P := Try.prog) (Value.int .i64) 0 26 3 .i64 Try.underlying26 hi1 hsz1 A c l (p : Int) (by omega) (by omega) hc
  have e : (l.take (p : Int).toNat).length = p := by rw [Int.toNat_natCast, List.length_take]; omega
  rw [e] at hcut
  refine ⟨hcut, fun w h => ?_⟩
  have h2 := Kd.C_of_reads (h1 := fun _ => rfl) (hC w (Kd.reads_of_C h))
  rw [e, Int.toNat_natCast] at h2
  exact h2
theorem getD_last {xs : List Int} (h : 0 < xs.length) (j : Nat) : rdOf (0 : Int) (xs ++ List.replicate j (rd xs ((xs.length : Int) - 1))) (((xs ++ List.replicate j (rd xs ((xs.length : Int) - 1))).length : Int) - 1) = rd xs ((xs.length : Int) - 1) := by
  unfold rdOf
  rw [List.length_append, List.length_replicate, List.getD_eq_getElem?_getD]
  cases j with
  | zero =>
    rw [List.replicate_zero, List.append_nil, show (((xs.length + 0 : Nat) : Int) - 1) = (xs.length : Int) - 1 by omega]
    unfold rd
    rw [List.getD_eq_getElem?_getD]
  | succ j =>
    rw [List.getElem?_append_right (by omega), List.getElem?_replicate, if_pos (by omega)]
    rfl
/-- A row made as long as a frame is: its last number again and again. -/
def padN (n : Nat) (xs : List Int) : List Int := (xs ++ List.replicate (n - xs.length) (rd xs ((xs.length : Int) - 1))).take n
set_option maxHeartbeats 4000000 in
set_option maxRecDepth 100000 in
theorem put.calls (W : World) (b P n : Nat) (last out gone : List Int) (vl vo vg : Value) (h : PS W b P n last out gone vl vo vg) (bR : Nat) (v : Value) (xs : List Int) (hr : RI W bR v xs) (hP : P < bR) (hsep : ∀ k, vl.ownBlock = some k ∨ vo.ownBlock = some k ∨ vg.ownBlock = some k → k < bR) (h0 : 0 < xs.length) (hx : xs.length ≤ 1000) (hbR : bR ≤ W.heap.size) (hn : 1 ≤ n ∧ n ≤ 255) (hout : out.length ≤ 1000000) :
    Calls Try.prog 19 #[.pointer (some ⟨P, 0, none⟩), v] W fun e w' => e = .returned (.tuple #[]) ∧ ∃ vl' vo', PS w' b P n (padN n xs) (out ++ padN n xs) gone vl' vo' vg ∧ Below b W w' := by
  have HP := Aside0.mk h
  have HBR := Aside0.mk hbR
  have HR := Aside0.mk hr
  have HSEP := Aside0.mk hsep
  have HPB := Aside0.mk hP
  have HX := Aside0.mk (And.intro h0 hx)
  have HN := Aside0.mk hn
  have HO := Aside0.mk hout
  obtain ⟨A, c, e⟩ := Kd.R_slice hr
  subst e
  have n0 := hn.1
  have n1 := hn.2
  clear h hr hsep hP hout hbR
  obtain ⟨last1, hl1⟩ : ∃ x, rd xs ((xs.length : Int) - 1) = x := ⟨_, rfl⟩
  have HL1 := Aside0.mk hl1
  clear hl1
  obtain ⟨m, hm⟩ : ∃ m, xs.length = m := ⟨_, rfl⟩
  have HM := Aside0.mk hm
  rw [hm] at h0 hx ⊢
  clear hm
  go_enter Try.func19, Try.ntmps19
  go_wp2
  go_loopg [1] (n - m) (fun kq v1 W' => ∃ (j q2 : Nat) (A2 : Option Addr) (c2 : Nat), v1 = .slice A2 (q2 + 1) c2 ∧ m + j = q2 + 1 ∧ kq = n - (q2 + 1) ∧ (j = 0 ∨ q2 + 1 ≤ n) ∧ Aside0 (RI W' bR (.slice A2 (q2 + 1) c2) (xs ++ List.replicate j last1)) ∧ Aside0 (Below bR W W'))
  case atStart => exact ⟨0, m - 1, A, c, by rw [show m - 1 + 1 = m by omega], by omega, by rw [show m - 1 + 1 = m by omega], .inl rfl, ⟨by rw [List.replicate_zero, List.append_nil, show m - 1 + 1 = m by omega, ← HM.out]; exact HR.out⟩, ⟨(Below.refl W.heap.size W).mono HBR.out⟩⟩
  case round =>
    obtain ⟨j, q2, A2, c2, rfl, hj, hk, hjn, HRW, HB⟩ := hrel
    have HLEN : Aside0 ((xs ++ List.replicate j last1).length = q2 + 1) := ⟨by rw [List.length_append, List.length_replicate, HM.out]; omega⟩
    obtain ⟨g2, e2, hg2⟩ := RI_addr HRW.out (by rw [HLEN.out]; omega)
    subst e2
    have HPW := Aside0.mk (HP.out.belowR HB.out HPB.out HSEP.out)
    have k0 := blk_cell HPW.out.blk 0
    have hcc := (Kd.R_celln (enc := Value.int .i64) (h1 := fun _ => rfl) (0 : Int) HRW.out (q2 : Int) (by omega) (by omega)).1
    have hla : rdOf (0 : Int) (xs ++ List.replicate j last1) (q2 : Int) = last1 := by
      have h1 := getD_last (xs := xs) (by rw [HM.out]; exact h0) j
      rw [HL1.out, HLEN.out, show (((q2 + 1 : Nat) : Int) - 1) = (q2 : Int) by omega] at h1
      exact h1
    rw [hla, Int.toNat_natCast] at hcc
    have hq : q2 + 1 ≤ 1000 := by omega
    have hq9 : (q2 : Int) + 1 ≤ 1000 := by omega
    clear hla
    have HNX : Aside0 (xs ++ List.replicate j last1 ++ [last1] = xs ++ List.replicate (j + 1) last1) := ⟨by rw [List.append_assoc, ← List.replicate_succ']⟩
    have HNL : Aside0 ((xs ++ List.replicate (j + 1) last1).length = q2 + 1 + 1) := ⟨by rw [List.length_append, List.length_replicate, HM.out]; omega⟩
    by_cases hlt : q2 + 1 < n
    · have b1 : decide ((q2 : Int) + 1 < (n : Int)) = true := decide_eq_true (by omega)
      have b2 : decide (q2 + 1 < n) = true := decide_eq_true hlt
      go_wp2_with ((with_reducible refine gate_builtin (b := .append) (xs := #[.tmp 11, .tmp 18]) rfl ?_); at_builtin; refine Kd.R_append (Kd.int .i64) (w0 := W) bR rfl (.tmp 11) (.tmp 18) 26 3 (.int .i64 0) 8 rfl Try.underlying26 info3 rfl (by decide) (by omega) (.slice (some ⟨g2, 0, none⟩) (q2 + 1) c2) (xs ++ List.replicate j last1) last1 [.int .i64 last1] (fun _ => True) (fun _ => False) rfl rfl rfl (fun _ hk => hk.elim) (fun _ _ => trivial) HRW.out HB.out ?aS ?aL ?_; (case aS => exact Nat.le_trans HBR.out (Nat.le_trans HB.out.size (Nat.le_refl _))); (case aL => rw [HLEN.out]; omega); intro v6 w6 ho hb hg _; rw [HNX.out] at ho; obtain ⟨A6, c6, e6⟩ := Kd.R_slice ho; rw [HNL.out] at e6; subst e6; have HO6 := Aside0.mk ho; have HB6 := Aside0.mk hb; clear ho hb hg)
      go_roundg (n - (q2 + 1 + 1))
      case measure => omega
      case rel => exact ⟨j + 1, q2 + 1, A6, c6, rfl, by omega, rfl, .inr (by omega), HO6, HB6⟩
    · have b1 : decide ((q2 : Int) + 1 < (n : Int)) = false := decide_eq_false (by omega)
      have b2 : decide (q2 + 1 < n) = false := decide_eq_false hlt
      have ej : j = n - m := by omega
      have HPAD : Aside0 ((xs ++ List.replicate j last1).take n = padN n xs) := ⟨by unfold padN; rw [HL1.out, HM.out, ej]⟩
      obtain ⟨hcut, hcu⟩ := cut_toI (some ⟨g2, 0, none⟩) c2 (q2 + 1) (xs ++ List.replicate j last1) HLEN.out (RI_at HRW.out).2 n (by omega)
      have HCU := Aside0.mk (hcu wr (RI_at HRW.out).1)
      rw [HPAD.out] at HCU
      have HPL : Aside0 ((padN n xs).length = n) := ⟨by rw [← HPAD.out, List.length_take, HLEN.out]; omega⟩
      clear hcc hcu
      have hn6 : n ≤ 1000000 := by omega
      go_upto_region 3 with (go_at_call 38; (with_reducible refine (cloneI.calls ⟨g2, 0, none⟩ c2 n (padN n xs) wr HCU.out hn6).mono ?_); rintro e w5 ⟨v5, rfl, ho, hb⟩; obtain ⟨A5, c5, e5⟩ := Kd.R_slice ho; rw [HPL.out] at e5; subst e5; have HO5 := Aside0.mk ho; have HB5 := Aside0.mk hb; have k1 := blk_cell (blk_below HPW.out.blk hb) 1; have f1 := blk_frozen (blk_below HPW.out.blk hb) 1; clear ho hb)
      have HP6x := HPW.out.lastA HO5.out HB5.out
      obtain ⟨Ao, co, eo⟩ := Kd.R_slice HP6x.ro
      subst eo
      obtain ⟨W6, hW6⟩ : ∃ W6, w5.setCell ⟨P, 1, none⟩ (.slice A5 n c5) = W6 := ⟨_, rfl⟩
      rw [hW6] at HP6x ⊢
      have HP6 := Aside0.mk HP6x
      have HB6 : Aside0 (Below b W W6) := ⟨by
        have hbR : b ≤ bR := by have := HPW.out.le; have := HPB.out; omega
        have hbw : b ≤ wr.heap.size := Nat.le_trans hbR (Nat.le_trans HBR.out HB.out.size)
        rw [← hW6]
        exact ((HB.out.mono hbR).trans (HB5.out.mono hbw)).setCell HPW.out.le _⟩
      have HLC : Aside0 (Kd.C (Kd.int .i64) W6 A5 n (padN n xs)) := ⟨(RI_at HP6x.rl).1⟩
      have k2 : W6.cell? ⟨P, 2, none⟩ = some (.slice Ao out.length co) := blk_cell HP6x.blk 2
      have k1 : W6.cell? ⟨P, 1, none⟩ = some (.slice A5 n c5) := blk_cell HP6x.blk 1
      have HBL : Aside0 (b ≤ W6.heap.size) := ⟨Nat.le_trans HP6x.le (Nat.le_of_lt (blk_lt HP6x.blk))⟩
      clear hW6 HP6x f1 b1 b2
      go_region_law (refine Kd.R_append_rows_step (Kd.int .i64) (w0 := W6) b (by rfl) (.tmp 34) (.tmp 38) 26 3 (.int .i64 0) 8 rfl Try.underlying26 info3 rfl (by decide) (by omega) _ out (padN n xs) _ _ _ (fun _ => True) (fun _ => False) (by rfl) (by rfl) ?aO ?aR (fun _ _ h => h) (fun _ h => h.elim) (fun _ _ => trivial) ?aB ?aS ?aL ?_; (case aO => repeat (first | exact HP6.out.ro | apply Kd.R_drew)); (case aR => repeat (first | exact HLC.out | apply Kd.C_drew)); (case aB => repeat (first | exact (Below.refl W6.heap.size W6).mono HBL.out | apply below_drew)); (case aS => exact HBL.out); (case aL => have := HO.out; clear hcut; omega); intro v7 w7 ho hb hg hat; obtain ⟨A7, c7, e7⟩ := Kd.R_slice ho; subst e7; have HO7 := Aside0.mk ho; have HG7 : Aside0 (W6.grownBy w7 (Value.slice Ao out.length co).ownBlock) := ⟨⟨hg.os, hg.tape, hg.output, hg.size, hg.block⟩⟩; have HAT7 : Aside0 ((Value.slice A7 (out ++ padN n xs).length c7).ownBlock = (Value.slice Ao out.length co).ownBlock ∨ ∃ q, (Value.slice A7 (out ++ padN n xs).length c7).ownBlock = some q ∧ W6.heap.size ≤ q) := ⟨hat⟩; have HB7 := Aside0.mk hb; have k9 : w7.cell? ⟨P, 2, none⟩ = some (.slice Ao out.length co) := blk_cell (blk_grown HP6.out.blk HG7.out (fun e => RI_ne HP6.out.ro HP6.out.blk (by decide) P e.symm rfl)) 2; have f9 : w7.frozen? ⟨P, 2, none⟩ = false := blk_frozen (blk_grown HP6.out.blk HG7.out (fun e => RI_ne HP6.out.ro HP6.out.blk (by decide) P e.symm rfl)) 2; clear ho hb hg hat)
      all_goals (
        go_end0
        have hps := HP6.out.outA HO7.out HG7.out HAT7.out
        rw [List.length_append] at hps
        exact ⟨rfl, _, _, hps, (HB6.out.trans HB7.out).setCell HP6.out.le _⟩)
def hvP (x : Int) : Int := wrap64 (Int.tdiv x 2)
def halfN (l : List Int) (i : Nat) : List Int := (l.take i).map hvP ++ l.drop i
theorem halfN_length (l : List Int) (i : Nat) (h : i ≤ l.length) : (halfN l i).length = l.length := by unfold halfN; rw [List.length_append, List.length_map, List.length_take, List.length_drop]; omega
theorem halfN_at {l : List Int} {i : Nat} (hi : i < l.length) : (halfN l i).getD i 0 = l.getD i 0 := by
  unfold halfN
  rw [List.getD_eq_getElem?_getD, List.getD_eq_getElem?_getD, List.getElem?_append_right (by rw [List.length_map, List.length_take]; omega), List.length_map, List.length_take, Nat.min_eq_left (by omega), Nat.sub_self, List.getElem?_drop, Nat.add_zero]
theorem halfN_step {l : List Int} {i : Nat} (hi : i < l.length) : (halfN l i).set i (hvP (l.getD i 0)) = halfN l (i + 1) := by
  unfold halfN
  rw [List.take_succ_eq_append_getElem hi, List.drop_eq_getElem_cons hi, List.map_append, List.set_append_right _ _ (by rw [List.length_map, List.length_take]; omega), List.length_map, List.length_take, Nat.min_eq_left (by omega), Nat.sub_self, List.set_cons_zero, List.append_assoc]
  congr 2
  rw [List.getD_eq_getElem?_getD, List.getElem?_eq_getElem hi]
  rfl
theorem halfN_all (l : List Int) : halfN l l.length = l.map hvP := by unfold halfN; rw [List.take_of_length_le (Nat.le_refl _), List.drop_eq_nil_of_le (Nat.le_refl _), List.append_nil]
set_option maxHeartbeats 4000000 in
set_option maxRecDepth 100000 in
theorem lose.calls (W : World) (b P n : Nat) (last out gone : List Int) (vl vo vg : Value) (h : PS W b P n last out gone vl vo vg) (m : Int) (hl : last.length = n) (hn : 1 ≤ n ∧ n ≤ 255) (hout : out.length ≤ 1000000) (hgone : gone.length ≤ 1000000) :
    Calls Try.prog 20 #[.pointer (some ⟨P, 0, none⟩), .int .i64 m] W fun e w' => e = .returned (.tuple #[]) ∧ ∃ vl' vo' vg', PS w' b P n (last.map hvP) (out ++ last.map hvP) (gone ++ [m]) vl' vo' vg' ∧ Below b W w' := by
  have HO := Aside0.mk hout
  have HGO := Aside0.mk hgone
  have HL := Aside0.mk hl
  obtain ⟨Al, cl, el⟩ := Kd.R_slice h.rl
  rw [hl] at el
  subst el
  obtain ⟨gl, el, hgl⟩ := RI_addr h.rl (by rw [hl]; exact hn.1)
  subst el
  have HP := Aside0.mk h
  have HGL := Aside0.mk hgl
  have n0 := hn.1
  have n1 := hn.2
  have hn9 : (n : Int) ≤ 255 := by omega
  have k1 : W.cell? ⟨P, 1, none⟩ = some (.slice (some ⟨gl, 0, none⟩) n cl) := blk_cell h.blk 1
  clear h hl hout hgone hgl hn
  go_enter Try.func20, Try.ntmps20
  go_wp2
  clear k1
  go_loopg [10] n (fun kq v10 W' => ∃ i : Nat, v10 = .int .i64 i ∧ i + kq = n ∧ Aside0 (PS W' b P n (halfN last i) out gone (.slice (some ⟨gl, 0, none⟩) n cl) vo vg) ∧ Aside0 (Below b W W'))
  case atStart => exact ⟨0, rfl, by omega, ⟨by unfold halfN; exact HP.out⟩, ⟨(Below.refl W.heap.size W).mono (Nat.le_trans HP.out.le (Nat.le_of_lt (blk_lt HP.out.blk)))⟩⟩
  case round =>
    obtain ⟨i, rfl, hi, HPW, HB⟩ := hrel
    have k1 : wr.cell? ⟨P, 1, none⟩ = some (.slice (some ⟨gl, 0, none⟩) n cl) := blk_cell HPW.out.blk 1
    by_cases hin : i < n
    · obtain ⟨q, rfl⟩ : ∃ q, gk = q + 1 := ⟨gk - 1, by omega⟩
      have i1 : (i : Int) < (n : Int) := by omega
      have i0 : (0 : Int) ≤ (i : Int) := by omega
      have hcc := Kd.R_celln (enc := Value.int .i64) (h1 := fun _ => rfl) (0 : Int) HPW.out.rl (i : Int) i0 i1
      have hs0 : rdOf (0 : Int) (halfN last i) (i : Int) = last.getD i 0 := by
        rw [← halfN_at (by rw [HL.out]; exact hin)]
        simp [rdOf]
      obtain ⟨x, hx⟩ : ∃ x, last.getD i 0 = x := ⟨_, rfl⟩
      rw [hs0, hx, Int.toNat_natCast] at hcc
      have k2 := hcc.1
      have f2 := hcc.2
      have HST : Aside0 ((halfN last i).set i (hvP x) = halfN last (i + 1)) := ⟨by rw [← hx]; exact halfN_step (by rw [HL.out]; exact hin)⟩
      have hps := HPW.out.halfA i (hvP x)
      rw [HST.out] at hps
      have HPN := Aside0.mk hps
      have HBN : Aside0 (Below b W (wr.setCell ⟨gl, i, none⟩ (.int .i64 (hvP x)))) := ⟨HB.out.setCell HGL.out _⟩
      clear hcc hs0 hx hps
      unfold hvP at HPN HBN
      go_wp2
      go_roundg q
      case measure => omega
      case rel => exact ⟨i + 1, by simp, by omega, HPN, HBN⟩
    · have ei : i = n := by omega
      subst ei
      have HA : Aside0 (halfN last i = last.map hvP) := ⟨by rw [← HL.out]; exact halfN_all last⟩
      rw [HA.out] at HPW
      have HML : Aside0 ((last.map hvP).length = i) := ⟨by rw [List.length_map, HL.out]⟩
      obtain ⟨Ao, co, eo⟩ := Kd.R_slice HPW.out.ro
      subst eo
      have HLC : Aside0 (Kd.C (Kd.int .i64) wr (some ⟨gl, 0, none⟩) i (last.map hvP)) := ⟨(RI_at HPW.out.rl).1⟩
      have k2 : wr.cell? ⟨P, 2, none⟩ = some (.slice Ao out.length co) := blk_cell HPW.out.blk 2
      have HBL : Aside0 (b ≤ wr.heap.size) := ⟨Nat.le_trans HPW.out.le (Nat.le_of_lt (blk_lt HPW.out.blk))⟩
      go_upto_region 5 with (fail)
      go_region_law (refine Kd.R_append_rows_step (Kd.int .i64) (w0 := wr) b (by rfl) (.tmp 27) (.tmp 31) 26 3 (.int .i64 0) 8 rfl Try.underlying26 info3 rfl (by decide) (by omega) _ out (last.map hvP) _ _ _ (fun _ => True) (fun _ => False) (by rfl) (by rfl) ?aO ?aR (fun _ _ h => h) (fun _ h => h.elim) (fun _ _ => trivial) ?aB ?aS ?aL ?_; (case aO => repeat (first | exact HPW.out.ro | apply Kd.R_drew)); (case aR => repeat (first | exact HLC.out | apply Kd.C_drew)); (case aB => repeat (first | exact (Below.refl wr.heap.size wr).mono HBL.out | apply below_drew)); (case aS => exact HBL.out); (case aL => have := HO.out; omega); intro v7 w7 ho hb hg hat; obtain ⟨A7, c7, e7⟩ := Kd.R_slice ho; rw [List.length_append, HML.out] at e7; subst e7; have HO7 := Aside0.mk ho; have HG7 : Aside0 (wr.grownBy w7 (Value.slice Ao out.length co).ownBlock) := ⟨⟨hg.os, hg.tape, hg.output, hg.size, hg.block⟩⟩; have HAT7 : Aside0 ((Value.slice A7 (out.length + i) c7).ownBlock = (Value.slice Ao out.length co).ownBlock ∨ ∃ q, (Value.slice A7 (out.length + i) c7).ownBlock = some q ∧ wr.heap.size ≤ q) := ⟨hat⟩; have HB7 := Aside0.mk hb; have k9 : w7.cell? ⟨P, 2, none⟩ = some (.slice Ao out.length co) := blk_cell (blk_grown HPW.out.blk HG7.out (fun e => RI_ne HPW.out.ro HPW.out.blk (by decide) P e.symm rfl)) 2; have f9 : w7.frozen? ⟨P, 2, none⟩ = false := blk_frozen (blk_grown HPW.out.blk HG7.out (fun e => RI_ne HPW.out.ro HPW.out.blk (by decide) P e.symm rfl)) 2; clear ho hb hg hat)
      all_goals (
        obtain ⟨W8, hW8⟩ : ∃ W8, w7.setCell ⟨P, 2, none⟩ (.slice A7 (out.length + i) c7) = W8 := ⟨_, rfl⟩
        have hps := HPW.out.outA HO7.out HG7.out HAT7.out
        have HB8 : Aside0 (Below b W W8) := ⟨by rw [← hW8]; exact (HB.out.trans HB7.out).setCell HPW.out.le _⟩
        rw [hW8] at hps ⊢
        have HP8 := Aside0.mk hps
        obtain ⟨Ag, cg, eg⟩ := Kd.R_slice hps.rg
        subst eg
        have k3 : W8.cell? ⟨P, 3, none⟩ = some (.slice Ag gone.length cg) := blk_cell HP8.out.blk 3
        have HBL8 : Aside0 (b ≤ W8.heap.size) := ⟨Nat.le_trans hps.le (Nat.le_of_lt (blk_lt hps.blk))⟩
        clear hps hW8 k1 k2
        go_wp2_with ((with_reducible refine gate_builtin (b := .append) (xs := #[.tmp 39, .tmp 41]) rfl ?_); at_builtin; refine Kd.R_append (Kd.int .i64) (w0 := W8) b rfl (.tmp 39) (.tmp 41) 26 3 (.int .i64 0) 8 rfl Try.underlying26 info3 rfl (by decide) (by omega) (.slice Ag gone.length cg) gone m [.int .i64 m] (fun _ => True) (fun _ => False) rfl rfl rfl (fun _ hk => hk.elim) (fun _ _ => trivial) HP8.out.rg ((Below.refl W8.heap.size W8).mono HBL8.out) ?aS ?aL ?_; (case aS => exact HBL8.out); (case aL => have := HGO.out; omega); intro v9 w9 ho hb hg hat; obtain ⟨A9, c9, e9⟩ := Kd.R_slice ho; rw [List.length_append, List.length_singleton] at e9; subst e9; have HO9 := Aside0.mk ho; have HB9 := Aside0.mk hb; have HG9 : Aside0 (W8.grownBy w9 (Value.slice Ag gone.length cg).ownBlock) := ⟨hg⟩; have HAT9 : Aside0 ((Value.slice A9 (gone.length + 1) c9).ownBlock = (Value.slice Ag gone.length cg).ownBlock ∨ ∃ q, (Value.slice A9 (gone.length + 1) c9).ownBlock = some q ∧ W8.heap.size ≤ q) := ⟨hat⟩; have k9 : w9.cell? ⟨P, 3, none⟩ = some (.slice Ag gone.length cg) := blk_cell (blk_grown HP8.out.blk HG9.out (fun e => RI_ne HP8.out.rg HP8.out.blk (by decide) P e.symm rfl)) 3; have f9 : w9.frozen? ⟨P, 3, none⟩ = false := blk_frozen (blk_grown HP8.out.blk HG9.out (fun e => RI_ne HP8.out.rg HP8.out.blk (by decide) P e.symm rfl)) 3; clear ho hb hg hat)
        go_end0
        exact ⟨rfl, _, _, _, HP8.out.goneA HO9.out HG9.out HAT9.out, (HB8.out.trans HB9.out).setCell HP8.out.le _⟩)
def firstI : List Int → Int → Nat → Option Nat
  | [], _, _ => none
  | x :: r, m, i => if x = m then some i else firstI r m (i + 1)
theorem firstI_snoc (y x : Int) : ∀ (l : List Int) (i : Nat), firstI (l ++ [y]) x i = match firstI l x i with | some j => some j | none => if y = x then some (i + l.length) else none
  | [], i => by simp [firstI]
  | z :: l, i => by
    rw [List.cons_append, firstI, firstI]
    by_cases c : z = x
    · rw [if_pos c, if_pos c]
    · rw [if_neg c, if_neg c, firstI_snoc y x l (i + 1), List.length_cons, show i + 1 + l.length = i + (l.length + 1) by omega]
theorem firstI_lt (x : Int) : ∀ (l : List Int) (i j : Nat), firstI l x i = some j → j < i + l.length
  | [], i, j, h => by simp [firstI] at h
  | z :: l, i, j, h => by
    rw [firstI] at h
    rw [List.length_cons]
    by_cases c : z = x
    · rw [if_pos c] at h; cases h; omega
    · rw [if_neg c] at h; have := firstI_lt x l (i + 1) j h; omega
def smI (l : List S39) (i : Nat) : S39 := rd_T39 l (i : Int)
def dueE (t0 n wait rate m : Int) : Int := wrap64 (wrap64 (t0 + wait) + wrap64 (Int.tdiv (wrap64 (wrap64 (m * n) * 1000000)) rate))
/-- What is played of a number's frame, if it is. -/
def playRow (l : List S39) (j : Option Nat) (n : Nat) (due : Int) : Option (List Int) :=
  match j with
  | none => none
  | some j => match voice_Unframe.f (smI l j).f3 with
    | some (row, e) => if e = 0 ∧ (smI l j).f2 ≤ due then some (padN n row) else none
    | none => none
def playN (l : List S39) (ns : List Int) (n : Nat) (wait rate : Int) : Nat → Nat → List Int → List Int → List Int → List Int × List Int
  | 0, _, _, out, gone => (out, gone)
  | d + 1, m, last, out, gone => match playRow l (firstI ns (m : Int) 0) n (dueE (smI l 0).f2 n wait rate m) with
    | some row => playN l ns n wait rate d (m + 1) row (out ++ row) gone
    | none => playN l ns n wait rate d (m + 1) (last.map hvP) (out ++ last.map hvP) (gone ++ [(m : Int)])
def topOf (ns : List Int) : Int := ns.foldl mx 0
theorem topOf_snoc (l : List Int) (y : Int) : topOf (l ++ [y]) = mx (topOf l) y := by simp [topOf, List.foldl_append]
theorem topOf_bd : ∀ (l : List Int) (t : Int), (∀ x ∈ l, x ≤ 1000000000) → 0 ≤ t → t ≤ 1000000000 → 0 ≤ l.foldl mx t ∧ l.foldl mx t ≤ 1000000000
  | [], t, _, h0, h1 => ⟨h0, h1⟩
  | x :: l, t, h, h0, h1 => by
    rw [List.foldl_cons]
    have hx := h x List.mem_cons_self
    exact topOf_bd l (mx t x) (fun y hy => h y (List.mem_cons_of_mem _ hy)) (by unfold mx; split <;> omega) (by unfold mx; split <;> omega)
theorem unf_len {d row : List Int} {e : Int} (h : voice_Unframe.f d = some (row, e)) : e ≠ 0 ∨ (0 < row.length ∧ row.length ≤ 255) := by
  unfold voice_Unframe.f at h
  split at h
  · split at h
    · next hb ho =>
      simp only [Option.some.injEq, Prod.mk.injEq] at h
      obtain ⟨rfl, rfl⟩ := h
      refine .inr ?_
      have hl : ∀ (m : Nat) (i p k : Int), (vUn d m i p k).length = m := by
        intro m
        induction m with
        | zero => intro i p k; rfl
        | succ m ih => intro i p k; rw [vUn, List.length_cons, ih]
      have h4 := of_decide_eq_true ho
      have hr := vBytes_rd hb 3 (by decide) (by omega)
      rw [hl]
      omega
    · simp only [Option.some.injEq, Prod.mk.injEq] at h
      obtain ⟨rfl, rfl⟩ := h
      exact .inl (by decide)
  · cases h
/-! A map whose elements are whatever they are: a datum holds the value itself. -/
def RS (v : Value) : Option (DataW Value × List MemPlace) := some (.held v, [])
def zS : Value := .agg #[.int .i64 0, .int .i64 0, .int .i64 0, .slice none 0 0]
theorem lkP : Go.Maps.Keyed Try.prog 3 := Go.Maps.int_keyed Try.underlying3
theorem zero_smp (w : World) : (zeroValue 39).run Try.prog w = .ok zS w := by kernel_rfl
theorem ownsMap_belowV {H : Type} {w w' : World} {R : Value → Option (DataW H × List MemPlace)} {P : Program} {k : TypeId} {B n b : Nat} {D : DataW H} (h : w.ownsMap P k R B n D) (hb : Below b w w') (hB : B < b) : w'.ownsMap P k R B n D := by
  obtain ⟨es, clock, hk, F, hs, hD⟩ := h
  exact ⟨es, clock, (hb.block B hB).trans hk, F, hs, hD⟩
/-- A sample's value, as it lies. -/
def SV (w : World) (v : Value) (s : S39) : Prop := ∃ A3 c3, v = .agg #[.int .i64 s.f0, .int .i64 s.f1, .int .i64 s.f2, .slice A3 s.f3.length c3] ∧ s.f3.length ≤ c3 ∧ Kd.C (Kd.int .u8) w A3 s.f3.length s.f3
/-- What the map of frames holds. -/
def FM (w : World) (l : List S39) (ns : List Int) (D : DataW Value) : Prop := Go.Maps.IsMap D ∧ ∀ x : Int, (Lit.int .i64 x).wf = true → ∃ b v, Go.Maps.has D (.int .i64 x) = b ∧ D.atKey (.int .i64 x) (.held zS) = .held v ∧
  ((firstI ns x 0 = none ∧ b = false ∧ v = zS) ∨ ∃ j, firstI ns x 0 = some j ∧ b = true ∧ SV w v (smI l j))
theorem FM.start (w : World) (l : List S39) : FM w l [] (.map []) := ⟨Go.Maps.isMap_empty, fun x _ => ⟨false, zS, rfl, by simp [DataW.atKey], .inl ⟨rfl, rfl, rfl⟩⟩⟩
theorem FM.keep {w : World} {l : List S39} {ns : List Int} {D : DataW Value} (h : FM w l ns D) {y : Int} {j : Nat} (hy : firstI ns y 0 = some j) : FM w l (ns ++ [y]) D := ⟨h.1, fun x hx => by
  obtain ⟨b, v, h1, h2, h3⟩ := h.2 x hx
  refine ⟨b, v, h1, h2, ?_⟩
  rw [firstI_snoc]
  rcases h3 with ⟨h4, h5, h6⟩ | ⟨j2, h4, h5, h6⟩
  · rw [h4]
    by_cases c : y = x
    · subst c; rw [hy] at h4; cases h4
    · exact .inl ⟨if_neg c, h5, h6⟩
  · rw [h4]
    exact .inr ⟨j2, rfl, h5, h6⟩⟩
theorem FM.put {w : World} {l : List S39} {ns : List Int} {D : DataW Value} (h : FM w l ns D) {y : Int} (hy : firstI ns y 0 = none) {v : Value} (hvP : SV w v (smI l ns.length)) : FM w l (ns ++ [y]) (D.put (.int .i64 y) (.held v)) := ⟨h.1.put _ _, fun x hx => by
  by_cases c : x = y
  · rw [c]
    refine ⟨true, v, Go.Maps.has_put_same h.1 (show WideAt.IsKeyLit (.int .i64 y) from trivial) _, Go.Maps.atKey_put_same h.1 (show WideAt.IsKeyLit (.int .i64 y) from trivial) _ _, .inr ⟨ns.length, ?_, rfl, hvP⟩⟩
    rw [firstI_snoc, hy]
    simp
  · have hne : (Lit.int .i64 x) ≠ .int .i64 y := by intro h; injection h with _ h; exact c h
    obtain ⟨b, u, h1, h2, h3⟩ := h.2 x hx
    refine ⟨b, u, by rw [Go.Maps.has_put_other hne]; exact h1, by rw [Go.Maps.atKey_put_other hne]; exact h2, ?_⟩
    rw [firstI_snoc]
    rcases h3 with ⟨h4, h5, h6⟩ | ⟨j2, h4, h5, h6⟩
    · rw [h4]
      exact .inl ⟨if_neg (fun e => c e.symm), h5, h6⟩
    · rw [h4]
      exact .inr ⟨j2, rfl, h5, h6⟩⟩
/-- The look-up, with what it tells. -/
theorem look_smp {w0 w : World} {B n : Nat} {D : DataW Value} {l : List S39} {ns : List Int} (h : w.ownsMap Try.prog 3 RS B n D) (hf : FM w0 l ns D) {x : Int} (hx : (Lit.int .i64 x).wf = true) : ∃ b v, (Instr.lookup 44 (.map (some B)) (.int .i64 x) true).run Try.prog w = .ok (.tuple #[v, .bool b]) w ∧
    ((firstI ns x 0 = none ∧ b = false ∧ v = zS) ∨ ∃ j, firstI ns x 0 = some j ∧ b = true ∧ SV w0 v (smI l j)) := by
  obtain ⟨v, ps, hrun, hvP⟩ := h.look_ok lkP Try.underlying44 (zero_smp w) (show RS zS = some (.held zS, []) from rfl) (Go.Maps.keyOf_int_mk Try.underlying3 hx)
  obtain ⟨b, u, h1, h2, h3⟩ := hf.2 x hx
  have e : v = u := by
    have h4 : some (DataW.held v, []) = some (D.atKey (.int .i64 x) (.held zS), ps) := hvP
    rw [h2] at h4
    simp only [Option.some.injEq, Prod.mk.injEq] at h4
    injection h4.1
  subst e
  rw [h1] at hrun
  exact ⟨b, v, hrun, h3⟩
/-- What Play answers once the numbers are told. -/
def playEnd (l0 : List S39) (ns : List Int) (a1 a2 a3 : Int) : List Int × List Int × Int :=
  if 80000 < (topOf ns + 1) * a1 then ([], [], 3) else ((playN l0 ns a1.toNat a2 a3 (topOf ns + 1).toNat 0 (List.replicate a1.toNat 0) [] []).1, (playN l0 ns a1.toNat a2 a3 (topOf ns + 1).toNat 0 (List.replicate a1.toNat 0) [] []).2, 0)
def playOk (l0 : List S39) (ns : List Int) : Prop := (∀ s ∈ l0, vBytes s.f3 = true) ∧ ns.length = l0.length ∧ ∀ x ∈ ns, -1000000000 ≤ x ∧ x ≤ 1000000000
instance (l0 : List S39) (ns : List Int) : Decidable (playOk l0 ns) := by unfold playOk; infer_instance
def voice_Play.f (k : Nat) (l0 : List S39) (a1 a2 a3 : Int) : Option (List Int × List Int × Int) :=
  if a1 < 1 ∨ 255 < a1 ∨ a2 < 0 ∨ 1000000000000000 < a2 ∨ a3 < 1 ∨ 1000000 < a3 then some ([], [], 1)
  else (voice_asked.f l0 a3).bind fun e => if e = 0 then (if (l0.length : Int) = 0 then some ([], [], 0) else
    (voice_numbers.f k l0).bind fun ns => if playOk l0 ns then some (playEnd l0 ns a1 a2 a3) else none)
   else some ([], [], e)
theorem voice_Play.mono : ∀ a0 a1 a2 a3 k, LeO (voice_Play.f k a0 a1 a2 a3) (voice_Play.f (k + 1) a0 a1 a2 a3) := by
  intro a0 a1 a2 a3 k
  unfold voice_Play.f
  refine LeO.ite (LeO.refl _) (LeO.bind (LeO.refl _) (fun e => ?_))
  exact LeO.ite (LeO.ite (LeO.refl _) (LeO.bind (voice_numbers.mono a0 k) (fun _ => LeO.refl _))) (LeO.refl _)
/-- What is given back, and where it lies. -/
def PlayPost (w w' : World) (e : Ending) (r1 r2 : List Int) (r3 : Int) : Prop := ∃ v0_ v1_ : Value, e = .returned (.tuple #[v0_, v1_, .int .i64 r3]) ∧ Kd.R (Kd.int .i64) 3 w' w.heap.size (fun k_ => some k_ ≠ (v1_ : Value).ownBlock) v0_ r1 ∧ Kd.R (Kd.int .i64) 3 w' w.heap.size (fun k_ => some k_ ≠ (v0_ : Value).ownBlock) v1_ r2 ∧ Below w.heap.size w w'
theorem PlayPost.nil {w w' : World} (r3 : Int) (hb : Below w.heap.size w w') : PlayPost w w' (.returned (.tuple #[.slice none 0 0, .slice none 0 0, .int .i64 r3])) [] [] r3 := ⟨_, _, rfl, Kd.R_nil _ _ _ _ _, Kd.R_nil _ _ _ _ _, hb⟩
set_option maxHeartbeats 2000000 in
set_option maxRecDepth 100000 in
theorem play.bad (A0 : Option Addr) (c0 N : Nat) (a1 a2 a3 : Int) (w : World) (h : a1 < 1 ∨ 255 < a1 ∨ a2 < 0 ∨ 1000000000000000 < a2 ∨ a3 < 1 ∨ 1000000 < a3) :
    Calls Try.prog 7 #[.slice A0 N c0, .int .i64 a1, .int .i64 a2, .int .i64 a3] w fun e w' => PlayPost w w' e [] [] 1 := by
  have HB := Aside0.mk (Below.refl w.heap.size w)
  go_enter Try.func7, Try.ntmps7
  by_cases c1 : a1 < 1
  · have d1 : decide (a1 < 1) = true := decide_eq_true c1
    clear h c1
    go_wp2
    (try simp only [Exit.inBlock, Exit.then]); refine bodyPost_ret (results_tmp3 rfl _ _ _) rfl ?_
    exact PlayPost.nil 1 HB.out
  have d1 : decide (a1 < 1) = false := decide_eq_false c1
  by_cases c2 : 255 < a1
  · have d2 : decide (255 < a1) = true := decide_eq_true c2
    clear h c1 c2
    go_wp2
    (try simp only [Exit.inBlock, Exit.then]); refine bodyPost_ret (results_tmp3 rfl _ _ _) rfl ?_
    exact PlayPost.nil 1 HB.out
  have d2 : decide (255 < a1) = false := decide_eq_false c2
  by_cases c3 : a2 < 0
  · have d3 : decide (a2 < 0) = true := decide_eq_true c3
    clear h c1 c2 c3
    go_wp2
    (try simp only [Exit.inBlock, Exit.then]); refine bodyPost_ret (results_tmp3 rfl _ _ _) rfl ?_
    exact PlayPost.nil 1 HB.out
  have d3 : decide (a2 < 0) = false := decide_eq_false c3
  by_cases c4 : 1000000000000000 < a2
  · have d4 : decide (1000000000000000 < a2) = true := decide_eq_true c4
    clear h c1 c2 c3 c4
    go_wp2
    (try simp only [Exit.inBlock, Exit.then]); refine bodyPost_ret (results_tmp3 rfl _ _ _) rfl ?_
    exact PlayPost.nil 1 HB.out
  have d4 : decide (1000000000000000 < a2) = false := decide_eq_false c4
  by_cases c5 : a3 < 1
  · have d5 : decide (a3 < 1) = true := decide_eq_true c5
    clear h c1 c2 c3 c4 c5
    go_wp2
    (try simp only [Exit.inBlock, Exit.then]); refine bodyPost_ret (results_tmp3 rfl _ _ _) rfl ?_
    exact PlayPost.nil 1 HB.out
  have d5 : decide (a3 < 1) = false := decide_eq_false c5
  have c6 : 1000000 < a3 := by omega
  have d6 : decide (1000000 < a3) = true := decide_eq_true c6
  clear h c1 c2 c3 c4 c5 c6
  go_wp2
  (try simp only [Exit.inBlock, Exit.then]); refine bodyPost_ret (results_tmp3 rfl _ _ _) rfl ?_
  exact PlayPost.nil 1 HB.out
set_option maxHeartbeats 2000000 in
set_option maxRecDepth 100000 in
theorem play.err (A0 : Option Addr) (c0 : Nat) (l0 : List S39) (a1 a2 a3 r : Int) (w : World) (hr0 : Kd.C k39 w A0 l0.length l0) (hc0 : l0.length ≤ c0) (h : ¬ (a1 < 1 ∨ 255 < a1 ∨ a2 < 0 ∨ 1000000000000000 < a2 ∨ a3 < 1 ∨ 1000000 < a3)) (he : voice_asked.f l0 a3 = some r) (hr : r ≠ 0 ∨ (l0.length : Int) = 0) :
    Calls Try.prog 7 #[.slice A0 l0.length c0, .int .i64 a1, .int .i64 a2, .int .i64 a3] w fun e w' => PlayPost w w' e [] [] r := by
  have HR0 := Aside0.mk hr0
  have HC0 := Aside0.mk hc0
  clear hr0 hc0
  obtain ⟨N, hN⟩ : ∃ N, l0.length = N := ⟨_, rfl⟩
  have HN := Aside0.mk hN
  have HE := Aside0.mk he
  rw [hN] at hr ⊢
  clear hN he
  have HASK : Aside0 (Calls Try.prog 16 #[.slice A0 N c0, .int .i64 a3] w fun e w' => e = .returned (.int .i64 r) ∧ Below w.heap.size w w') := ⟨by rw [← HN.out]; exact voice_asked.calls A0 c0 l0 a3 r w HR0.out HC0.out HE.out⟩
  have d1 : decide (a1 < 1) = false := decide_eq_false (by omega)
  have d2 : decide (255 < a1) = false := decide_eq_false (by omega)
  have d3 : decide (a2 < 0) = false := decide_eq_false (by omega)
  have d4 : decide (1000000000000000 < a2) = false := decide_eq_false (by omega)
  have d5 : decide (a3 < 1) = false := decide_eq_false (by omega)
  have d6 : decide (1000000 < a3) = false := decide_eq_false (by omega)
  clear h
  by_cases q1 : r = 0
  · subst q1
    have e0 : N = 0 := by rcases hr with h | h; exact absurd rfl h; omega
    subst e0
    clear hr
    go_enter Try.func7, Try.ntmps7
    go_wp2_with (go_at_call 16; (with_reducible refine HASK.out.mono ?_); rintro e w1 ⟨rfl, hb⟩; have HB1 := Aside0.mk hb; clear hb)
    (try simp only [Exit.inBlock, Exit.then]); refine bodyPost_ret (results_tmp3 rfl _ _ _) rfl ?_
    exact PlayPost.nil 0 HB1.out
  · have b1 : (r == 0) = false := beq_eq_false_iff_ne.2 q1
    have b2 : (r != 0) = true := bne_iff_ne.2 q1
    clear hr q1
    go_enter Try.func7, Try.ntmps7
    go_wp2_with (go_at_call 16; (with_reducible refine HASK.out.mono ?_); rintro e w1 ⟨rfl, hb⟩; have HB1 := Aside0.mk hb; clear hb)
    (try simp only [Exit.inBlock, Exit.then]); refine bodyPost_ret (results_tmp3 rfl _ _ _) rfl ?_
    exact PlayPost.nil r HB1.out
theorem wpList_look_run {P : Program} (w : World) {ops : Array Oper} {rest : List Oper} {o : Oper} {a : Act} {Q : Exit → Act → World → Prop} (hg : o.guard = none) (m x : Operand) (t : TypeId) (hop : o.op = Op.lookup t m x true)
    (mv xv V : Value) (hm : a.eval m = mv) (hx : a.eval x = xv) (hrun : (Instr.lookup t mv xv true).run P w = .ok V w) (hK : wpList P ops Q rest (a.put o.dst V) w) : wpList P ops Q (o :: rest) a w := by
  refine wpList_plain hg fun K' hK' => ?_
  unfold Oper.wp
  simp [execOp, hop, hm, hx, hrun, Result.andThen]
  exact hK' _ _ hK
theorem padN_length {n : Nat} {xs : List Int} : (padN n xs).length = n := by
  unfold padN
  rw [List.length_take, List.length_append, List.length_replicate]
  omega
theorem playRow_bad {l : List S39} {j n : Nat} {due : Int} {row : List Int} {e : Int} (hU : voice_Unframe.f (smI l j).f3 = some (row, e)) (h : ¬ (e = 0 ∧ (smI l j).f2 ≤ due)) : playRow l (some j) n due = none := by
  simp only [playRow, hU]
  rw [if_neg h]
theorem playRow_ok {l : List S39} {j n : Nat} {due : Int} {row : List Int} {e : Int} (hU : voice_Unframe.f (smI l j).f3 = some (row, e)) (h : e = 0 ∧ (smI l j).f2 ≤ due) : playRow l (some j) n due = some (padN n row) := by
  simp only [playRow, hU]
  rw [if_pos h]
theorem playN_lose {l : List S39} {ns : List Int} {n : Nat} {wait rate : Int} {d m : Nat} {last out gone : List Int} (h : playRow l (firstI ns (m : Int) 0) n (dueE (smI l 0).f2 n wait rate m) = none) :
    playN l ns n wait rate (d + 1) m last out gone = playN l ns n wait rate d (m + 1) (last.map hvP) (out ++ last.map hvP) (gone ++ [(m : Int)]) := by rw [playN, h]
theorem playN_put {l : List S39} {ns : List Int} {n : Nat} {wait rate : Int} {d m : Nat} {last out gone row : List Int} (h : playRow l (firstI ns (m : Int) 0) n (dueE (smI l 0).f2 n wait rate m) = some row) :
    playN l ns n wait rate (d + 1) m last out gone = playN l ns n wait rate d (m + 1) row (out ++ row) gone := by rw [playN, h]
theorem PS.result {W : World} {b P n B : Nat} {last out gone : List Int} {vl vo vg : Value} (h : PS W b P n last out gone vl vo vg) (hB : B ≤ b) :
    Kd.R (Kd.int .i64) 3 W B (fun k_ => some k_ ≠ vg.ownBlock) vo out ∧ Kd.R (Kd.int .i64) 3 W B (fun k_ => some k_ ≠ vo.ownBlock) vg gone :=
  ⟨Kd.R_lower (Kd.R_of_own (h1 := fun _ => rfl) (ok := fun k => some k ≠ vg.ownBlock) (Kd.own_of_R (enc := Value.int .i64) (h1 := fun _ => rfl) h.ro) (fun k hk e => h.og k hk e.symm)) hB,
   Kd.R_lower (Kd.R_of_own (h1 := fun _ => rfl) (ok := fun k => some k ≠ vo.ownBlock) (Kd.own_of_R (enc := Value.int .i64) (h1 := fun _ => rfl) h.rg) (fun k hk e => h.og k e.symm hk)) hB⟩
theorem PS.start {w1 : World} {b n m c : Nat} {A : Option Addr} {xs : List Int} (h : RI w1 b (.slice A m c) xs) (hb : b ≤ w1.heap.size) : PS (w1.alloc (.cells #[.int .i64 n, .slice A m c, .slice none 0 0, .slice none 0 0] 49)) b w1.heap.size n xs [] [] (.slice A m c) (.slice none 0 0) (.slice none 0 0) :=
  ⟨by show (w1.heap.push _)[w1.heap.size]? = some _; exact Array.getElem?_push_size, hb, RI_below h (below_alloc (Below.refl _ _) _), Kd.R_nil _ _ _ _ _, Kd.R_nil _ _ _ _ _, fun _ _ e => (by cases e), fun _ _ e => (by cases e), fun _ e _ => (by cases e)⟩
theorem wf_small {y : Int} (h : -1000000000 ≤ y ∧ y ≤ 1000000000) : (Lit.int .i64 y).wf = true := by
  simp [Lit.wf, IntKind.min, IntKind.max, IntKind.signed, IntKind.bits]
  omega
theorem topOf_nonneg (ns : List Int) (h : ∀ x ∈ ns, x ≤ 1000000000) (i : Nat) : 0 ≤ topOf (ns.take i) ∧ topOf (ns.take i) ≤ 1000000000 := topOf_bd _ 0 (fun x hx => h x (List.mem_of_mem_take hx)) (by decide) (by decide)
theorem smI_mem {l : List S39} {i : Nat} (h : i < l.length) : smI l i ∈ l := by
  unfold smI rd_T39
  rw [Int.toNat_natCast, List.getD_eq_getElem?_getD, List.getElem?_eq_getElem h]
  exact List.getElem_mem h
theorem unf_nil : voice_Unframe.f [] = some ([], 11) := by decide
theorem unf_some {d : List Int} (h : vBytes d = true) : ∃ row e, voice_Unframe.f d = some (row, e) := by
  unfold voice_Unframe.f
  rw [if_pos h]
  split
  · exact ⟨_, _, rfl⟩
  · exact ⟨_, _, rfl⟩
/-- What the look-up of a number tells, as the player needs it. -/
theorem look_play {w0 w : World} {B c n : Nat} {D : DataW Value} {l : List S39} {ns : List Int} (h : w.ownsMap Try.prog 3 RS B c D) (hf : FM w0 l ns D) {x : Int} (hx : (Lit.int .i64 x).wf = true) (hlen : ns.length = l.length) (hby : ∀ s ∈ l, vBytes s.f3 = true) (due : Int) :
    ∃ b x0 x1 x2 A4 d4 c4 row e, (Instr.lookup 44 (.map (some B)) (.int .i64 x) true).run Try.prog w = .ok (.tuple #[.agg #[.int .i64 x0, .int .i64 x1, .int .i64 x2, .slice A4 (d4 : List Int).length c4], .bool b]) w ∧ d4.length ≤ c4 ∧ Kd.C (Kd.int .u8) w0 A4 d4.length d4 ∧ voice_Unframe.f d4 = some (row, e) ∧
      ((b = true ∧ e = 0) ∧ x2 ≤ due → playRow l (firstI ns x 0) n due = some (padN n row)) ∧ (¬ ((b = true ∧ e = 0) ∧ x2 ≤ due) → playRow l (firstI ns x 0) n due = none) := by
  obtain ⟨b, v, hrun, ⟨h1, rfl, rfl⟩ | ⟨j, h1, rfl, A4, c4, rfl, h4, hc4⟩⟩ := look_smp h hf hx
  · refine ⟨false, 0, 0, 0, none, [], 0, [], 11, hrun, Nat.le_refl _, ⟨rfl, Nat.zero_le _, fun h => absurd h (Nat.lt_irrefl 0)⟩, unf_nil, fun h => (by cases h.1.1), fun _ => ?_⟩
    rw [h1]
    rfl
  · have hj := firstI_lt x ns 0 j h1
    obtain ⟨row, e, hU⟩ := unf_some (hby _ (smI_mem (by omega : j < l.length)))
    refine ⟨true, _, _, _, A4, _, c4, row, e, hrun, h4, hc4, hU, fun h => ?_, fun h => ?_⟩
    · rw [h1]
      exact playRow_ok hU ⟨h.1.2, h.2⟩
    · rw [h1]
      exact playRow_bad hU (fun h2 => h ⟨⟨rfl, h2.1⟩, h2.2⟩)
set_option maxHeartbeats 4000000 in
set_option maxRecDepth 100000 in
theorem play.main (k : Nat) (A0 : Option Addr) (c0 : Nat) (l0 : List S39) (a1 a2 a3 : Int) (ns r1 r2 : List Int) (r3 : Int) (w : World) (hr0 : Kd.C k39 w A0 l0.length l0) (hc0 : l0.length ≤ c0) (h : ¬ (a1 < 1 ∨ 255 < a1 ∨ a2 < 0 ∨ 1000000000000000 < a2 ∨ a3 < 1 ∨ 1000000 < a3)) (he : voice_asked.f l0 a3 = some 0) (hne : ¬ (l0.length : Int) = 0) (hns : voice_numbers.f k l0 = some ns) (hok : playOk l0 ns) (hend : playEnd l0 ns a1 a2 a3 = (r1, r2, r3)) :
    Calls Try.prog 7 #[.slice A0 l0.length c0, .int .i64 a1, .int .i64 a2, .int .i64 a3] w fun e w' => PlayPost w w' e r1 r2 r3 := by
  have HR0 := Aside0.mk hr0
  have HC0 := Aside0.mk hc0
  clear hr0 hc0
  obtain ⟨hby, hlen, hbd⟩ := hok
  have HBY := Aside0.mk hby
  have HBD := Aside0.mk hbd
  have HEND := Aside0.mk hend
  clear hby hbd hend
  obtain ⟨N, hN⟩ : ∃ N, l0.length = N := ⟨_, rfl⟩
  have HN := Aside0.mk hN
  have HE := Aside0.mk he
  rw [hN] at hne hlen ⊢
  have HM := Aside0.mk hlen
  have HNS := Aside0.mk hns
  have hN200 : N ≤ 1000000 := by
    unfold voice_asked.f at he
    rw [hN] at he
    by_cases c : (N : Int) > 200
    · rw [if_pos c] at he; simp at he
    · omega
  clear hN he hns hlen
  have HASK : Aside0 (Calls Try.prog 16 #[.slice A0 N c0, .int .i64 a3] w fun e w' => e = .returned (.int .i64 0) ∧ Below w.heap.size w w') := ⟨by rw [← HN.out]; exact voice_asked.calls A0 c0 l0 a3 0 w HR0.out HC0.out HE.out⟩
  have HNUM : Aside0 (∀ w', Below w.heap.size w w' → Calls Try.prog 17 #[.slice A0 N c0] w' fun e w'' => ∃ v0_ : Value, e = .returned (v0_) ∧ Kd.R (Kd.int .i64) 3 w'' w'.heap.size (fun _ => True) v0_ ns ∧ Below w'.heap.size w' w'') := ⟨fun w' hb => by rw [← HN.out]; exact voice_numbers.calls k A0 c0 l0 ns w' (Kd.C_below HR0.out hb) HC0.out HNS.out⟩
  obtain ⟨n, hn⟩ : ∃ n : Nat, a1 = (n : Int) := ⟨a1.toNat, by omega⟩
  subst hn
  have hn1 : 1 ≤ n := by omega
  have hn2 : n ≤ 255 := by omega
  have ha31 : 1 ≤ a3 := by omega
  have ha32 : a3 ≤ 1000000 := by omega
  have d1 : decide ((n : Int) < 1) = false := decide_eq_false (by omega)
  have d2 : decide (255 < (n : Int)) = false := decide_eq_false (by omega)
  have d3 : decide (a2 < 0) = false := decide_eq_false (by omega)
  have d4 : decide (1000000000000000 < a2) = false := decide_eq_false (by omega)
  have d5 : decide (a3 < 1) = false := decide_eq_false (by omega)
  have d6 : decide (1000000 < a3) = false := decide_eq_false (by omega)
  have b1 : ((N : Int) == 0) = false := beq_eq_false_iff_ne.2 hne
  have b2 : (N == 0) = false := beq_eq_false_iff_ne.2 (by omega)
  have hmm := @run_makeMap Try.prog
  have hu39 := Try.underlying39
  clear h
  go_enter Try.func7, Try.ntmps7
  go_wp2_with (first
    | (go_at_call 16; (with_reducible refine HASK.out.mono ?_); rintro e w1 ⟨rfl, hb⟩; have HB1 := Aside0.mk hb; clear hb)
    | (go_at_call 17; (with_reducible refine (HNUM.out _ (below_alloc HB1.out _)).mono ?_); rintro e w3 ⟨v3, rfl, ho, hb⟩; obtain ⟨A3, c3, e3⟩ := Kd.R_slice ho; rw [HM.out] at e3; subst e3; have HO3 := Aside0.mk ho; have HOWN3 : Aside0 (w3.ownsMap Try.prog 3 RS w1.heap.size 0 (.map [] : DataW Value)) := ⟨ownsMap_belowV (World.ownsMap_made _ _ _ _) hb (by simp)⟩; have HB3 : Aside0 (Below w.heap.size w w3) := ⟨(below_alloc HB1.out _).trans (hb.mono (below_alloc HB1.out _).size)⟩; clear ho hb))
  clear hmm b1 b2 d1 d2 d3 d4 d5 d6 HASK HNUM HE HNS
  obtain ⟨B, hB⟩ : ∃ B, w1.heap.size = B := ⟨_, rfl⟩
  have HBW : Aside0 (w.heap.size ≤ B ∧ B < w3.heap.size) := ⟨by have := HB1.out.size; omega, by rw [← hB]; exact HOWN3.out.lt⟩
  rw [hB] at HOWN3 ⊢
  obtain ⟨b3, hb3, HO4⟩ : ∃ b3, B < b3 ∧ Aside0 (Kd.R (Kd.int .i64) 3 w3 b3 (fun k => B < k) (.slice A3 N c3) ns) := ⟨_, by rw [← hB]; simp, ⟨Kd.R_mono (Kd.R_bound HO3.out) (fun k hk => by have h1 := hk.2.1; rw [← hB]; simp at h1; omega)⟩⟩
  clear hB HO3
  go_loopg [13, 59] N (fun kq v13 v59 W' => ∃ (i c : Nat) (t : Int) (D : DataW Value), v59 = .int .i64 i ∧ v13 = .int .i64 t ∧ i + kq = N ∧ c ≤ i ∧ Aside0 (topOf (ns.take i) = t) ∧ Aside0 (W'.ownsMap Try.prog 3 RS B c D) ∧ Aside0 (FM w l0 (ns.take i) D) ∧ Aside0 (Kd.R (Kd.int .i64) 3 W' b3 (fun k => B < k) (.slice A3 N c3) ns) ∧ Aside0 (Below w.heap.size w W'))
  case atStart => exact ⟨0, 0, 0, .map [], rfl, rfl, by omega, Nat.le_refl _, ⟨by rw [List.take_zero]; rfl⟩, HOWN3, ⟨by rw [List.take_zero]; exact FM.start w l0⟩, HO4, HB3⟩
  case round =>
    clear HOWN3 HO4 HB3 HB1
    obtain ⟨i, c, t, D, rfl, rfl, hik, hci, HT, HOWN, HFM, HO, HB⟩ := hrel
    have i0 : (0 : Int) ≤ (i : Int) := by omega
    by_cases hi : i < N
    · obtain ⟨q, rfl⟩ : ∃ q, gk = q + 1 := ⟨gk - 1, by omega⟩
      have i1 : (i : Int) < (N : Int) := by omega
      obtain ⟨A5, c5, e5, _, hcr⟩ := (Kd.R_reads HO.out)
      have e51 : A3 = A5 := by injection e5
      subst e51
      obtain ⟨ad, e, hx⟩ := Kd.at_int hcr (i : Int) i0 (by rw [HM.out]; exact i1)
      subst e
      rw [Int.toNat_natCast] at hx
      have hiN : i < ns.length := by rw [HM.out]; exact hi
      have hrd : rd ns (i : Int) = ns[i] := by unfold rd; rw [Int.toNat_natCast, List.getD_eq_getElem?_getD, List.getElem?_eq_getElem hiN]; rfl
      obtain ⟨y, hy⟩ : ∃ y, ns[i] = y := ⟨_, rfl⟩
      rw [hrd, hy] at hx
      have hyb := HBD.out y (by rw [← hy]; exact List.getElem_mem hiN)
      have hwf : (Lit.int .i64 y).wf = true := wf_small hyb
      have HTK : Aside0 (ns.take (i + 1) = ns.take i ++ [y]) := ⟨by rw [List.take_succ_eq_append_getElem hiN, hy]⟩
      have HTN : Aside0 (topOf (ns.take (i + 1)) = mx t y) := ⟨by rw [HTK.out, topOf_snoc, HT.out]⟩
      have htb := topOf_nonneg ns (fun x hx => (HBD.out x hx).2) i
      rw [HT.out] at htb
      obtain ⟨b, v, hrun, hcase⟩ := look_smp HOWN.out HFM.out hwf
      have HKEY : Aside0 (Go.keyOf Try.prog 3 (.int .i64 y) = some (.int .i64 y)) := ⟨Go.Maps.keyOf_int_mk Try.underlying3 hwf⟩
      have HTI : Aside0 ((ns.take i).length = i) := ⟨by rw [List.length_take]; omega⟩
      have HLT : Aside0 (c < maxLen) := ⟨by unfold maxLen; omega⟩
      have i9 : (i : Int) + 1 ≤ 9223372036854775807 := by omega
      clear hy hrd hwf hcr HT
      rcases hcase with ⟨hnone, rfl, rfl⟩ | ⟨j, hj, rfl, A4, c4, rfl, h4, hc4⟩
      · unfold zS at hrun
        have HRUN := Aside0.mk hrun
        clear hrun
        obtain ⟨ad2, A7, c7, e7, y0, y1, y2, y3, hl7, hi7⟩ := at_T39 (n := N) (by rw [← HN.out]; exact HR0.out) (i : Int) i0 i1
        cases e7
        have HSV : Aside0 (SV w (.agg #[.int .i64 (smI l0 i).f0, .int .i64 (smI l0 i).f1, .int .i64 (smI l0 i).f2, .slice A7 (smI l0 i).f3.length c7]) (smI l0 i)) := ⟨_, _, rfl, hl7, hi7⟩
        replace y0 := (HB.out.cell (World.block_lt_of_cell? w _ y0)).trans y0
        replace y1 := (HB.out.cell (World.block_lt_of_cell? w _ y1)).trans y1
        replace y2 := (HB.out.cell (World.block_lt_of_cell? w _ y2)).trans y2
        replace y3 := (HB.out.cell (World.block_lt_of_cell? w _ y3)).trans y3
        rw [Int.toNat_natCast] at y0 y1 y2 y3
        change wr.cell? _ = some (.int .i64 (smI l0 i).f0) at y0
        change wr.cell? _ = some (.int .i64 (smI l0 i).f1) at y1
        change wr.cell? _ = some (.int .i64 (smI l0 i).f2) at y2
        change wr.cell? _ = some (.slice A7 (smI l0 i).f3.length c7) at y3
        obtain ⟨S, hS⟩ : ∃ S, smI l0 i = S := ⟨_, rfl⟩
        rw [hS] at y0 y1 y2 y3 HSV
        have HNONE := Aside0.mk hnone
        have HS := Aside0.mk hS
        clear hl7 hi7 hS hnone
        by_cases p2 : t < y
        · have f2 : decide (t < y) = true := decide_eq_true p2
          go_upto_region 15 with (at_lookup; refine wpList_look_run _ rfl _ _ 44 rfl _ _ _ rfl rfl HRUN.out ?_)
          obtain ⟨W4, hW4⟩ : ∃ W4, wr.alloc (.cells #[.int .i64 0, .int .i64 0, .int .i64 0, .slice none 0 0] 39) = W4 := ⟨_, rfl⟩
          rw [hW4]
          have hal : Below wr.heap.size wr W4 := by rw [← hW4]; exact below_alloc (Below.refl _ _) _
          replace y0 := (hal.cell (World.block_lt_of_cell? wr _ y0)).trans y0
          replace y1 := (hal.cell (World.block_lt_of_cell? wr _ y1)).trans y1
          replace y2 := (hal.cell (World.block_lt_of_cell? wr _ y2)).trans y2
          replace y3 := (hal.cell (World.block_lt_of_cell? wr _ y3)).trans y3
          have HAL := Aside0.mk hal
          have HOWN4 := Aside0.mk (ownsMap_belowV HOWN.out hal HOWN.out.lt)
          have HO4 := Aside0.mk (Kd.R_below HO.out hal)
          have HB4 : Aside0 (Below w.heap.size w W4) := ⟨HB.out.trans (hal.mono HB.out.size)⟩
          clear hW4 hal
          go_wp2_with (at_mapUpdate; refine wpList_mapUpdate_own _ rfl _ _ _ 44 rfl 3 39 lkP Try.underlying44 RS B c D rfl HOWN4.out HLT.out _ _ _ rfl rfl HKEY.out _ [] rfl ?_; intro w5 hown hg; have HOWN5 := Aside0.mk hown; have HO5 := Aside0.mk (Kd.R_grown HO4.out hg (fun k hk => by intro e; injection e with e; omega)); have HB5 : Aside0 (Below w.heap.size w w5) := ⟨HB4.out.grown hg HB4.out.size (fun j hj => by cases hj; exact HBW.out.1)⟩; clear hown hg)
          go_roundg q
          case measure => omega
          case rel => exact ⟨i + 1, c + 1, _, _, by simp, rfl, by omega, by omega, ⟨by rw [HTN.out]; unfold mx; split <;> omega⟩, HOWN5, ⟨by rw [HTK.out]; refine HFM.out.put HNONE.out ?_; rw [HTI.out, HS.out]; exact HSV.out⟩, HO5, HB5⟩
        · have f2 : decide (t < y) = false := decide_eq_false p2
          go_upto_region 15 with (at_lookup; refine wpList_look_run _ rfl _ _ 44 rfl _ _ _ rfl rfl HRUN.out ?_)
          obtain ⟨W4, hW4⟩ : ∃ W4, wr.alloc (.cells #[.int .i64 0, .int .i64 0, .int .i64 0, .slice none 0 0] 39) = W4 := ⟨_, rfl⟩
          rw [hW4]
          have hal : Below wr.heap.size wr W4 := by rw [← hW4]; exact below_alloc (Below.refl _ _) _
          replace y0 := (hal.cell (World.block_lt_of_cell? wr _ y0)).trans y0
          replace y1 := (hal.cell (World.block_lt_of_cell? wr _ y1)).trans y1
          replace y2 := (hal.cell (World.block_lt_of_cell? wr _ y2)).trans y2
          replace y3 := (hal.cell (World.block_lt_of_cell? wr _ y3)).trans y3
          have HAL := Aside0.mk hal
          have HOWN4 := Aside0.mk (ownsMap_belowV HOWN.out hal HOWN.out.lt)
          have HO4 := Aside0.mk (Kd.R_below HO.out hal)
          have HB4 : Aside0 (Below w.heap.size w W4) := ⟨HB.out.trans (hal.mono HB.out.size)⟩
          clear hW4 hal
          go_wp2_with (at_mapUpdate; refine wpList_mapUpdate_own _ rfl _ _ _ 44 rfl 3 39 lkP Try.underlying44 RS B c D rfl HOWN4.out HLT.out _ _ _ rfl rfl HKEY.out _ [] rfl ?_; intro w5 hown hg; have HOWN5 := Aside0.mk hown; have HO5 := Aside0.mk (Kd.R_grown HO4.out hg (fun k hk => by intro e; injection e with e; omega)); have HB5 : Aside0 (Below w.heap.size w w5) := ⟨HB4.out.grown hg HB4.out.size (fun j hj => by cases hj; exact HBW.out.1)⟩; clear hown hg)
          go_roundg q
          case measure => omega
          case rel => exact ⟨i + 1, c + 1, _, _, by simp, rfl, by omega, by omega, ⟨by rw [HTN.out]; unfold mx; split <;> omega⟩, HOWN5, ⟨by rw [HTK.out]; refine HFM.out.put HNONE.out ?_; rw [HTI.out, HS.out]; exact HSV.out⟩, HO5, HB5⟩
      · have HRUN := Aside0.mk hrun
        have HJ := Aside0.mk hj
        clear hrun hj h4 hc4
        by_cases p2 : t < y
        · have f2 : decide (t < y) = true := decide_eq_true p2
          go_upto_region 14 with (at_lookup; refine wpList_look_run _ rfl _ _ 44 rfl _ _ _ rfl rfl HRUN.out ?_)
          obtain ⟨W4, hW4⟩ : ∃ W4, wr.alloc (.cells #[.int .i64 (smI l0 j).f0, .int .i64 (smI l0 j).f1, .int .i64 (smI l0 j).f2, .slice A4 (smI l0 j).f3.length c4] 39) = W4 := ⟨_, rfl⟩
          rw [hW4]
          have hal : Below wr.heap.size wr W4 := by rw [← hW4]; exact below_alloc (Below.refl _ _) _
          have HOWN4 := Aside0.mk (ownsMap_belowV HOWN.out hal HOWN.out.lt)
          have HO4 := Aside0.mk (Kd.R_below HO.out hal)
          have HB4 : Aside0 (Below w.heap.size w W4) := ⟨HB.out.trans (hal.mono HB.out.size)⟩
          clear hW4 hal
          go_wp2
          go_roundg q
          case measure => omega
          case rel => exact ⟨i + 1, c, _, _, by simp, rfl, by omega, by omega, ⟨by rw [HTN.out]; unfold mx; split <;> omega⟩, HOWN4, ⟨by rw [HTK.out]; exact HFM.out.keep HJ.out⟩, HO4, HB4⟩
        · have f2 : decide (t < y) = false := decide_eq_false p2
          go_upto_region 14 with (at_lookup; refine wpList_look_run _ rfl _ _ 44 rfl _ _ _ rfl rfl HRUN.out ?_)
          obtain ⟨W4, hW4⟩ : ∃ W4, wr.alloc (.cells #[.int .i64 (smI l0 j).f0, .int .i64 (smI l0 j).f1, .int .i64 (smI l0 j).f2, .slice A4 (smI l0 j).f3.length c4] 39) = W4 := ⟨_, rfl⟩
          rw [hW4]
          have hal : Below wr.heap.size wr W4 := by rw [← hW4]; exact below_alloc (Below.refl _ _) _
          have HOWN4 := Aside0.mk (ownsMap_belowV HOWN.out hal HOWN.out.lt)
          have HO4 := Aside0.mk (Kd.R_below HO.out hal)
          have HB4 : Aside0 (Below w.heap.size w W4) := ⟨HB.out.trans (hal.mono HB.out.size)⟩
          clear hW4 hal
          go_wp2
          go_roundg q
          case measure => omega
          case rel => exact ⟨i + 1, c, _, _, by simp, rfl, by omega, by omega, ⟨by rw [HTN.out]; unfold mx; split <;> omega⟩, HOWN4, ⟨by rw [HTK.out]; exact HFM.out.keep HJ.out⟩, HO4, HB4⟩
    · have ei : i = N := by omega
      subst ei
      have e1 : ns.take i = ns := List.take_of_length_le (by rw [HM.out]; exact Nat.le_refl _)
      rw [e1] at HT HFM
      have htb := topOf_bd ns 0 (fun x hx => (HBD.out x hx).2) (by decide) (by decide)
      have HT2 : Aside0 (topOf ns = t) := HT
      rw [show ns.foldl mx 0 = t from HT.out] at htb
      clear e1 HT
      have t0 := htb.1
      have t1 := htb.2
      clear htb
      have p0 : 0 ≤ (t + 1) * (n : Int) := Int.mul_nonneg (by omega) (by omega)
      have p1 : (t + 1) * (n : Int) ≤ 1000000001 * 255 := Int.mul_le_mul (by omega) (by omega) (by omega) (by omega)
      obtain ⟨p, hp⟩ : ∃ p, (t + 1) * (n : Int) = p := ⟨_, rfl⟩
      have HP := Aside0.mk hp
      rw [hp] at p0 p1
      clear hp
      by_cases c80 : 80000 < p
      · have d80 : decide (80000 < wrap64 ((t + 1) * (n : Int))) = true := by rw [HP.out, w64P (by omega) (by omega)]; exact decide_eq_true c80
        have HE3 : Aside0 (([], [], 3) = (r1, r2, r3)) := ⟨by rw [← HEND.out]; unfold playEnd; rw [if_pos (by rw [HT2.out, HP.out]; exact c80)]⟩
        have he3 := HE3.out
        simp only [Prod.mk.injEq] at he3
        obtain ⟨rfl, rfl, rfl⟩ := he3
        clear HEND HE3
        go_wp2
        (try simp only [Exit.inBlock, Exit.then]); refine bodyPost_ret (results_tmp3 rfl _ _ _) rfl ?_
        exact PlayPost.nil 3 HB.out
      have d80 : decide (80000 < wrap64 ((t + 1) * (n : Int))) = false := by rw [HP.out, w64P (by omega) (by omega)]; exact decide_eq_false c80
      obtain ⟨tn, htn⟩ : ∃ tn : Nat, t = (tn : Int) := ⟨t.toNat, by omega⟩
      subst htn
      have HE3 : Aside0 (((playN l0 ns n a2 a3 (tn + 1) 0 (List.replicate n 0) [] []).1, (playN l0 ns n a2 a3 (tn + 1) 0 (List.replicate n 0) [] []).2, 0) = (r1, r2, r3)) := ⟨by rw [← HEND.out]; unfold playEnd; rw [if_neg (by rw [HT2.out, HP.out]; exact c80), HT2.out, show ((tn : Int) + 1).toNat = tn + 1 by omega, Int.toNat_natCast]⟩
      have he3 := HE3.out
      simp only [Prod.mk.injEq] at he3
      obtain ⟨he1, he2, rfl⟩ := he3
      have HPL : Aside0 (playN l0 ns n a2 a3 (tn + 1) 0 (List.replicate n 0) [] [] = (r1, r2)) := ⟨Prod.ext he1 he2⟩
      have HBIG : Aside0 (n * (tn + 1) ≤ 80000) := ⟨by
        have h1 := HP.out
        have h2 : ((n * (tn + 1) : Nat) : Int) = p := by rw [← h1, Int.natCast_mul, Int.mul_comm]; rfl
        omega⟩
      clear HE3 he1 he2 HEND
      go_wp2_with ((with_reducible refine gate_dst (N := 89) rfl ?_); refine Kd.R_make (Kd.int .i64) _ 3 rfl (N := 89) rfl 26 _ _ rfl (n : Int) rfl rfl Try.underlying26 (.int .i64 0) 8 info3 rfl (by decide) (by omega) 0 (ok := fun _ => True) (okp := fun _ => True) rfl (fun _ hk => hk) trivial (by omega) (by rw [Int.toNat_natCast]; omega) (Below.refl _ _) (Nat.le_refl _) ?_; intro v6 w6 ho hb _ _; obtain ⟨A6, c6, e6⟩ := Kd.R_slice ho; rw [Int.toNat_natCast, List.length_replicate] at e6; subst e6; rw [Int.toNat_natCast] at ho; have HO6 := Aside0.mk ho; have HB6 := Aside0.mk hb; clear ho hb)
      have hps := PS.start (n := n) HO6.out HB6.out.size
      have hbw : Below w.heap.size w (w6.alloc (.cells #[.int .i64 n, .slice A6 n c6, .slice none 0 0, .slice none 0 0] 49)) := below_alloc (HB.out.trans (HB6.out.mono HB.out.size)) _
      have how : (w6.alloc (.cells #[.int .i64 n, .slice A6 n c6, .slice none 0 0, .slice none 0 0] 49)).ownsMap Try.prog 3 RS B c D := ownsMap_belowV (ownsMap_belowV HOWN.out HB6.out HOWN.out.lt) (below_alloc (Below.refl _ _) _) (Nat.lt_of_lt_of_le HOWN.out.lt HB6.out.size)
      obtain ⟨P, hP⟩ : ∃ P, w6.heap.size = P := ⟨_, rfl⟩
      rw [hP] at hps ⊢
      obtain ⟨W2, hW2⟩ : ∃ W2, w6.alloc (.cells #[.int .i64 n, .slice A6 n c6, .slice none 0 0, .slice none 0 0] 49) = W2 := ⟨_, rfl⟩
      rw [hW2] at hps hbw how ⊢
      have HPS := Aside0.mk hps
      have HBS := Aside0.mk hbw
      have HOS := Aside0.mk how
      obtain ⟨b, hb⟩ : ∃ b, wr.heap.size = b := ⟨_, rfl⟩
      have HBb : Aside0 (B < b) := ⟨by rw [← hb]; exact HOWN.out.lt⟩
      have HWb : Aside0 (w.heap.size ≤ b) := ⟨by rw [← hb]; exact HB.out.size⟩
      rw [hb] at HPS
      clear hps hbw how hW2 hP hb HO6 HB6 HB HOWN HO d80 t0 t1 p0 p1 HP c80 HT2 i0 hi hik hci
      go_loopg [94] (tn + 1) (fun kq v94 W' => ∃ (m : Nat) (last out gone : List Int) (vl vo vg : Value), v94 = .int .i64 m ∧ m + kq = tn + 1 ∧ last.length = n ∧ Aside0 (out.length + n * kq ≤ 80000) ∧ Aside0 (gone.length ≤ m) ∧ Aside0 (PS W' b P n last out gone vl vo vg) ∧ Aside0 (playN l0 ns n a2 a3 kq m last out gone = (r1, r2)) ∧ Aside0 (W'.ownsMap Try.prog 3 RS B c D) ∧ Aside0 (Below w.heap.size w W'))
      case atStart => exact ⟨0, _, _, _, _, _, _, rfl, by omega, by simp, ⟨by rw [List.length_nil]; have := HBIG.out; omega⟩, ⟨Nat.le_refl _⟩, HPS, HPL, HOS, HBS⟩
      case round =>
        clear HPS HPL HOS HBS
        obtain ⟨m, last, out, gone, vl, vo, vg, rfl, hmk, hll, HOL, HGL, HPW, HPL, HOWN, HB⟩ := hrel
        have htn8 : tn + 1 ≤ 80000 := Nat.le_trans (Nat.le_mul_of_pos_left _ hn1) HBIG.out
        by_cases hm : m < tn + 1
        · obtain ⟨q, rfl⟩ : ∃ q, gk = q + 1 := ⟨gk - 1, by omega⟩
          have m0 : (0 : Int) ≤ (m : Int) := by omega
          have m1 : (m : Int) < (tn : Int) + 1 := by omega
          have m2 : (m : Int) + 1 ≤ 9223372036854775807 := by omega
          have hwf : (Lit.int .i64 (m : Int)).wf = true := wf_small ⟨by omega, by omega⟩
          obtain ⟨ad, A7, c7, e7, _, _, y2, _, _, _⟩ := at_T39 HR0.out 0 (Int.le_refl 0) (by rw [HN.out]; omega)
          subst e7
          have hs0 : (rd_T39 l0 0).f2 = (smI l0 0).f2 := rfl
          rw [hs0] at y2
          clear hs0
          rw [show ((0 : Int)).toNat = 0 from rfl, show 0 * 4 = 0 from rfl, Addr.add_zero'] at y2
          obtain ⟨s0, hs0⟩ : ∃ s0, (smI l0 0).f2 = s0 := ⟨_, rfl⟩
          rw [hs0] at y2
          have HS0 := Aside0.mk hs0
          clear hs0
          obtain ⟨due, hdue⟩ : ∃ due, dueE s0 n a2 a3 (m : Int) = due := ⟨_, rfl⟩
          obtain ⟨b0, x0, x1, x2, A4, d4, c4, row, e, hrun, hc4, hC4, hU, hyes, hno⟩ := look_play (n := n) HOWN.out HFM.out hwf (HM.out.trans HN.out.symm) HBY.out due
          have HYES : Aside0 ((b0 = true ∧ e = 0) ∧ x2 ≤ due → playN l0 ns n a2 a3 q (m + 1) (padN n row) (out ++ padN n row) gone = (r1, r2)) := ⟨fun h => by rw [← HPL.out]; exact (playN_put (by rw [HS0.out, hdue]; exact hyes h)).symm⟩
          have HNO : Aside0 (¬ ((b0 = true ∧ e = 0) ∧ x2 ≤ due) → playN l0 ns n a2 a3 q (m + 1) (last.map hvP) (out ++ last.map hvP) (gone ++ [(m : Int)]) = (r1, r2)) := ⟨fun h => by rw [← HPL.out]; exact (playN_lose (by rw [HS0.out, hdue]; exact hno h)).symm⟩
          obtain ⟨dn, hdn⟩ : ∃ dn, d4.length = dn := ⟨_, rfl⟩
          have HROW := Aside0.mk (unf_len hU)
          have HUN : Aside0 (∀ w', Below w.heap.size w w' → Calls Try.prog 18 #[.slice A4 dn c4] w' fun e1 w'' => ∃ v0_ : Value, e1 = .returned (.tuple #[v0_, .int .i64 e]) ∧ RI w'' w'.heap.size v0_ row ∧ Below w'.heap.size w' w'') := ⟨fun w' hb => by rw [← hdn]; exact voice_Unframe.calls A4 c4 d4 row e w' (Kd.C_below hC4 hb) hc4 hU⟩
          rw [hdn] at hrun
          have HRUN := Aside0.mk hrun
          have HDUE := Aside0.mk hdue
          clear hrun hc4 hC4 hU hyes hno hdn hdue hwf HPL
          go_upto_region 25 with (at_lookup; refine wpList_look_run _ rfl _ _ 44 rfl _ _ _ rfl rfl HRUN.out ?_)
          obtain ⟨Q, hQ⟩ : ∃ Q, wr.heap.size = Q := ⟨_, rfl⟩
          obtain ⟨W4, hW4⟩ : ∃ W4, wr.alloc (.cells #[.int .i64 x0, .int .i64 x1, .int .i64 x2, .slice A4 dn c4] 39) = W4 := ⟨_, rfl⟩
          have hal : Below wr.heap.size wr W4 := by rw [← hW4]; exact below_alloc (Below.refl _ _) _
          have BK : Aside0 (W4.heap[Q]? = some (.cells #[.int .i64 x0, .int .i64 x1, .int .i64 x2, .slice A4 dn c4] 39 (0, 0))) := ⟨by rw [← hW4, ← hQ]; show (wr.heap.push _)[wr.heap.size]? = some _; exact Array.getElem?_push_size⟩
          have k3 : W4.cell? ⟨Q, 3, none⟩ = some (.slice A4 dn c4) := blk_cell BK.out 3
          rw [hQ, hW4]
          have HPW4 := Aside0.mk (HPW.out.below hal)
          have HOWN4 := Aside0.mk (ownsMap_belowV HOWN.out hal HOWN.out.lt)
          have HB4 : Aside0 (Below w.heap.size w W4) := ⟨HB.out.trans (hal.mono HB.out.size)⟩
          have HY := Aside0.mk y2
          clear hW4 hal hQ HRUN HPW HOWN HB y2
          go_upto_region 26 with (go_at_call 18; (with_reducible refine (HUN.out W4 HB4.out).mono ?_); rintro e1 w5 ⟨v5, rfl, ho, hb⟩; obtain ⟨A5, c5, e5⟩ := Kd.R_slice ho; subst e5; have HO5 := Aside0.mk ho; have HB5 := Aside0.mk hb; have q2 : w5.cell? ⟨Q, 2, none⟩ = some (.int .i64 x2) := blk_cell (blk_below BK.out hb) 2; have y5 := ((HB4.out.trans (hb.mono HB4.out.size)).cell (World.block_lt_of_cell? w _ HY.out)).trans HY.out; clear ho hb)
          clear k3
          by_cases hb0 : b0 = true
          · by_cases he0 : e = 0
            · subst hb0 he0
              have hdd := HDUE.out
              unfold dueE at hdd
              by_cases hx2 : x2 ≤ due
              · have HNEXT := Aside0.mk (HYES.out ⟨⟨rfl, rfl⟩, hx2⟩)
                have dk : decide (x2 ≤ wrap64 (wrap64 (s0 + a2) + wrap64 (Int.tdiv (wrap64 (wrap64 ((m : Int) * (n : Int)) * 1000000)) a3))) = true := by rw [hdd]; exact decide_eq_true hx2
                clear HYES HNO hdd hx2
                go_quiet (fail)
                clear dk q2 y5
                have HP6 := Aside0.mk ((HPW4.out.below HB5.out).drewN nq)
                have HOWN6 : Aside0 ((w5.drewN nq).ownsMap Try.prog 3 RS B c D) := ⟨ownsMap_belowV HOWN4.out (pw_below_drewN HB5.out nq) HOWN4.out.lt⟩
                have HB6 : Aside0 (Below w.heap.size w (w5.drewN nq)) := ⟨pw_below_drewN (HB4.out.trans (HB5.out.mono HB4.out.size)) nq⟩
                have HR6 : Aside0 (RI (w5.drewN nq) W4.heap.size (.slice A5 row.length c5) row) := ⟨Kd.R_drewN HO5.out nq⟩
                have HPLT : Aside0 (P < W4.heap.size) := ⟨blk_lt HPW4.out.blk⟩
                have HSEP : Aside0 (∀ k, vl.ownBlock = some k ∨ vo.ownBlock = some k ∨ vg.ownBlock = some k → k < W4.heap.size) := ⟨fun k hk => by
                  rcases hk with hk | hk | hk
                  · exact RI_lt HPW4.out.rl k hk
                  · exact RI_lt HPW4.out.ro k hk
                  · exact RI_lt HPW4.out.rg k hk⟩
                have HBR : Aside0 (W4.heap.size ≤ (w5.drewN nq).heap.size) := ⟨HB5.out.size⟩
                have HRL : Aside0 (0 < row.length ∧ row.length ≤ 1000) := ⟨by rcases HROW.out with h | h; exact absurd rfl h; omega⟩
                have HOUT : Aside0 (out.length ≤ 1000000) := ⟨by have := HOL.out; omega⟩
                go_wp2_with (go_at_call 19; (with_reducible refine (put.calls _ b P n last out gone vl vo vg HP6.out W4.heap.size _ row HR6.out HPLT.out HSEP.out HRL.out.1 HRL.out.2 HBR.out ⟨hn1, hn2⟩ HOUT.out).mono ?_); rintro e2 w7 ⟨rfl, vl7, vo7, hps, hb⟩; have HP7 := Aside0.mk hps; have HOWN7 := Aside0.mk (ownsMap_belowV HOWN6.out hb HBb.out); have HB7 : Aside0 (Below w.heap.size w w7) := ⟨HB6.out.trans (hb.mono HWb.out)⟩; clear hps hb)
                go_roundg q
                case measure => omega
                case rel => exact ⟨m + 1, padN n row, out ++ padN n row, gone, vl7, vo7, vg, by simp, by omega, padN_length, ⟨by have := HOL.out; rw [Nat.mul_succ] at this; rw [List.length_append, padN_length]; omega⟩, ⟨by have := HGL.out; omega⟩, HP7, HNEXT, HOWN7, HB7⟩
              · have HNEXT := Aside0.mk (HNO.out (fun h => hx2 h.2))
                have dk : decide (x2 ≤ wrap64 (wrap64 (s0 + a2) + wrap64 (Int.tdiv (wrap64 (wrap64 ((m : Int) * (n : Int)) * 1000000)) a3))) = false := by rw [hdd]; exact decide_eq_false hx2
                clear HYES HNO hdd hx2
                go_quiet (fail)
                clear dk q2 y5
                have HP6 := Aside0.mk ((HPW4.out.below HB5.out).drewN nq)
                have HOWN6 : Aside0 ((w5.drewN nq).ownsMap Try.prog 3 RS B c D) := ⟨ownsMap_belowV HOWN4.out (pw_below_drewN HB5.out nq) HOWN4.out.lt⟩
                have HB6 : Aside0 (Below w.heap.size w (w5.drewN nq)) := ⟨pw_below_drewN (HB4.out.trans (HB5.out.mono HB4.out.size)) nq⟩
                have HOUT : Aside0 (out.length ≤ 1000000) := ⟨by have := HOL.out; omega⟩
                have HGO : Aside0 (gone.length ≤ 1000000) := ⟨by have := HGL.out; omega⟩
                go_wp2_with (go_at_call 20; (with_reducible refine (lose.calls _ b P n last out gone vl vo vg HP6.out (m : Int) hll ⟨hn1, hn2⟩ HOUT.out HGO.out).mono ?_); rintro e2 w7 ⟨rfl, vl7, vo7, vg7, hps, hb⟩; have HP7 := Aside0.mk hps; have HOWN7 := Aside0.mk (ownsMap_belowV HOWN6.out hb HBb.out); have HB7 : Aside0 (Below w.heap.size w w7) := ⟨HB6.out.trans (hb.mono HWb.out)⟩; clear hps hb)
                go_roundg q
                case measure => omega
                case rel => exact ⟨m + 1, last.map hvP, out ++ last.map hvP, gone ++ [(m : Int)], vl7, vo7, vg7, by simp, by omega, by rw [List.length_map]; exact hll, ⟨by have := HOL.out; rw [Nat.mul_succ] at this; rw [List.length_append, List.length_map, hll]; omega⟩, ⟨by have := HGL.out; rw [List.length_append, List.length_singleton]; omega⟩, HP7, HNEXT, HOWN7, HB7⟩
            · subst hb0
              have HNEXT := Aside0.mk (HNO.out (fun h => he0 h.1.2))
              have b1 : (e == 0) = false := beq_eq_false_iff_ne.2 he0
              clear HYES HNO he0
              go_quiet (fail)
              clear b1 q2 y5
              have HP6 := Aside0.mk ((HPW4.out.below HB5.out).drewN nq)
              have HOWN6 : Aside0 ((w5.drewN nq).ownsMap Try.prog 3 RS B c D) := ⟨ownsMap_belowV HOWN4.out (pw_below_drewN HB5.out nq) HOWN4.out.lt⟩
              have HB6 : Aside0 (Below w.heap.size w (w5.drewN nq)) := ⟨pw_below_drewN (HB4.out.trans (HB5.out.mono HB4.out.size)) nq⟩
              have HOUT : Aside0 (out.length ≤ 1000000) := ⟨by have := HOL.out; omega⟩
              have HGO : Aside0 (gone.length ≤ 1000000) := ⟨by have := HGL.out; omega⟩
              go_wp2_with (go_at_call 20; (with_reducible refine (lose.calls _ b P n last out gone vl vo vg HP6.out (m : Int) hll ⟨hn1, hn2⟩ HOUT.out HGO.out).mono ?_); rintro e2 w7 ⟨rfl, vl7, vo7, vg7, hps, hb⟩; have HP7 := Aside0.mk hps; have HOWN7 := Aside0.mk (ownsMap_belowV HOWN6.out hb HBb.out); have HB7 : Aside0 (Below w.heap.size w w7) := ⟨HB6.out.trans (hb.mono HWb.out)⟩; clear hps hb)
              go_roundg q
              case measure => omega
              case rel => exact ⟨m + 1, last.map hvP, out ++ last.map hvP, gone ++ [(m : Int)], vl7, vo7, vg7, by simp, by omega, by rw [List.length_map]; exact hll, ⟨by have := HOL.out; rw [Nat.mul_succ] at this; rw [List.length_append, List.length_map, hll]; omega⟩, ⟨by have := HGL.out; rw [List.length_append, List.length_singleton]; omega⟩, HP7, HNEXT, HOWN7, HB7⟩
          · have HNEXT := Aside0.mk (HNO.out (fun h => hb0 h.1.1))
            have hb1 : b0 = false := Bool.eq_false_iff.2 hb0
            subst hb1
            clear HYES HNO hb0
            go_quiet (fail)
            clear q2 y5
            have HP6 := Aside0.mk ((HPW4.out.below HB5.out).drewN nq)
            have HOWN6 : Aside0 ((w5.drewN nq).ownsMap Try.prog 3 RS B c D) := ⟨ownsMap_belowV HOWN4.out (pw_below_drewN HB5.out nq) HOWN4.out.lt⟩
            have HB6 : Aside0 (Below w.heap.size w (w5.drewN nq)) := ⟨pw_below_drewN (HB4.out.trans (HB5.out.mono HB4.out.size)) nq⟩
            have HOUT : Aside0 (out.length ≤ 1000000) := ⟨by have := HOL.out; omega⟩
            have HGO : Aside0 (gone.length ≤ 1000000) := ⟨by have := HGL.out; omega⟩
            go_wp2_with (go_at_call 20; (with_reducible refine (lose.calls _ b P n last out gone vl vo vg HP6.out (m : Int) hll ⟨hn1, hn2⟩ HOUT.out HGO.out).mono ?_); rintro e2 w7 ⟨rfl, vl7, vo7, vg7, hps, hb⟩; have HP7 := Aside0.mk hps; have HOWN7 := Aside0.mk (ownsMap_belowV HOWN6.out hb HBb.out); have HB7 : Aside0 (Below w.heap.size w w7) := ⟨HB6.out.trans (hb.mono HWb.out)⟩; clear hps hb)
            go_roundg q
            case measure => omega
            case rel => exact ⟨m + 1, last.map hvP, out ++ last.map hvP, gone ++ [(m : Int)], vl7, vo7, vg7, by simp, by omega, by rw [List.length_map]; exact hll, ⟨by have := HOL.out; rw [Nat.mul_succ] at this; rw [List.length_append, List.length_map, hll]; omega⟩, ⟨by have := HGL.out; rw [List.length_append, List.length_singleton]; omega⟩, HP7, HNEXT, HOWN7, HB7⟩
        · have ek : gk = 0 := by omega
          subst ek
          have hpl := HPL.out
          rw [playN] at hpl
          simp only [Prod.mk.injEq] at hpl
          obtain ⟨rfl, rfl⟩ := hpl
          have em : m = tn + 1 := by omega
          subst em
          have k2 : wr.cell? ⟨P, 2, none⟩ = some vo := blk_cell HPW.out.blk 2
          have k3 : wr.cell? ⟨P, 3, none⟩ = some vg := blk_cell HPW.out.blk 3
          clear HPL
          go_upto_region 30 with (fail)
          go_region
          go_wp2
          (try simp only [Exit.inBlock, Exit.then]); refine bodyPost_ret (results_tmp3 rfl _ _ _) rfl ?_
          have hres := HPW.out.result HWb.out
          exact ⟨vo, vg, rfl, Kd.R_drew hres.1, Kd.R_drew hres.2, below_drew1 HB.out⟩
theorem voice_Play.calls (k : Nat) (A0 : Option Addr) (c0 : Nat) (l0 : List S39) (a1 a2 a3 : Int) (r1 r2 : List Int) (r3 : Int) (w : World) (hr0 : Kd.C k39 w A0 l0.length l0) (hc0 : l0.length ≤ c0) (h : voice_Play.f k l0 a1 a2 a3 = some (r1, r2, r3)) :
    Calls Try.prog 7 #[.slice A0 l0.length c0, .int .i64 a1, .int .i64 a2, .int .i64 a3] w fun e w' => ∃ v0_ v1_ : Value, e = .returned (.tuple #[v0_, v1_, .int .i64 r3]) ∧ Kd.R (Kd.int .i64) 3 w' w.heap.size (fun k_ => some k_ ≠ (v1_ : Value).ownBlock) v0_ r1 ∧ Kd.R (Kd.int .i64) 3 w' w.heap.size (fun k_ => some k_ ≠ (v0_ : Value).ownBlock) v1_ r2 ∧ Below w.heap.size w w' := by
  show Calls Try.prog 7 #[.slice A0 l0.length c0, .int .i64 a1, .int .i64 a2, .int .i64 a3] w fun e w' => PlayPost w w' e r1 r2 r3
  unfold voice_Play.f at h
  by_cases hbad : a1 < 1 ∨ 255 < a1 ∨ a2 < 0 ∨ 1000000000000000 < a2 ∨ a3 < 1 ∨ 1000000 < a3
  · rw [if_pos hbad] at h
    cases h
    exact play.bad A0 c0 l0.length a1 a2 a3 w hbad
  rw [if_neg hbad] at h
  obtain ⟨er, he, h⟩ := Option.bind_eq_some_iff.1 h
  by_cases q1 : er = 0
  · subst q1
    rw [if_pos rfl] at h
    by_cases q2 : (l0.length : Int) = 0
    · rw [if_pos q2] at h
      cases h
      exact play.err A0 c0 l0 a1 a2 a3 0 w hr0 hc0 hbad he (.inr q2)
    rw [if_neg q2] at h
    obtain ⟨ns, hns, h⟩ := Option.bind_eq_some_iff.1 h
    by_cases hok : playOk l0 ns
    · rw [if_pos hok] at h
      exact play.main k A0 c0 l0 a1 a2 a3 ns r1 r2 r3 w hr0 hc0 hbad he q2 hns hok (Option.some.inj h)
    · rw [if_neg hok] at h
      cases h
  · rw [if_neg q1] at h
    cases h
    exact play.err A0 c0 l0 a1 a2 a3 r3 w hr0 hc0 hbad he (.inl q1)

end Go.Proofs.Ytcinmodpfdehpaa.P
