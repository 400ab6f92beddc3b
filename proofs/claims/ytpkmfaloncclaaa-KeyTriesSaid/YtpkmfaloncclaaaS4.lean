/- A key's session, on: what Close refuses, and Read walked. Conditions: as each theorem says. -/
import Derived.Test.YtpkmfaloncclaaaS3
namespace Go.Proofs.Ytpkmfaloncclaaa.T
open Go Go.RowKit Go.Shelf Go.Proofs.Ytpkmfaloncclaaa.K Go.Proofs.Ytpkmfaloncclaaa.Pure Go.Proofs.YtpkmfaloncclaaaW.PrintWords Go.Proofs.YtpkmfaloncclaaaW.PrintLast Go.Proofs.YtpkmfaloncclaaaW.PrintMore Hand
attribute [local go_sem] Oper.semAt_some max2_int min2_int max_two min_two max_three min_three max_four min_four
set_option linter.unusedVariables false
set_option maxHeartbeats 8000000 in
set_option maxRecDepth 100000 in
theorem kClose.calls (g : Nat) (A : Option Addr) (c : Nat) (key : List Int) (n kind : Int) (A2 : Option Addr) (c2 m2 : Nat) (l2 : List Int) (W : World) (h : Sess 71 W g A c key n) (hm : m2 ≤ 140737488351232) (hl2 : l2.length = m2) (hy2 : ByteL l2) (hr2 : Kd.C (Kd.int .u8) W A2 m2 l2) (hc2 : m2 ≤ c2) :
    Calls Try.prog 20 #[.pointer (some ⟨g, 0, none⟩), .int .i64 kind, .slice A2 m2 c2] W fun e w' => ∃ v, e = .returned (.tuple #[v, .int .i64 (closeA key n kind l2).1.2]) ∧ Kd.R (Kd.int .u8) 5 w' W.heap.size (fun _ => True) v (closeA key n kind l2).1.1 ∧ Sess 71 w' g A c key (closeA key n kind l2).2 ∧ Moved g W w' := by
  have HS := Aside0.mk h
  have k1 := h.c1
  have hnn := h.num
  unfold closeA
  rw [hl2]
  by_cases q1 : kind < 0
  · have b1 : decide (kind < 0) = true := decide_eq_true q1
    rw [if_pos (Or.inl q1)]
    clear h hl2 hy2 hr2 hc2 hnn
    go_enter Try.func20, Try.ntmps20
    go_wp2
    go_ret2
    exact ⟨_, rfl, Kd.R_nil _ _ _ _ _, HS.out, Moved.refl _ _ (Nat.le_of_lt HS.out.lt)⟩
  have b1 : decide (kind < 0) = false := decide_eq_false q1
  by_cases q2 : 255 < kind
  · have b2 : decide (255 < kind) = true := decide_eq_true q2
    rw [if_pos (Or.inr q2)]
    clear h hl2 hy2 hr2 hc2 hnn
    go_enter Try.func20, Try.ntmps20
    go_wp2
    go_ret2
    exact ⟨_, rfl, Kd.R_nil _ _ _ _ _, HS.out, Moved.refl _ _ (Nat.le_of_lt HS.out.lt)⟩
  have b2 : decide (255 < kind) = false := decide_eq_false q2
  rw [if_neg (by omega)]
  by_cases q3 : 400 < m2
  · have b3 : decide (400 < (m2 : Int)) = true := decide_eq_true (by omega)
    have b4 : decide (400 < m2) = true := decide_eq_true q3
    rw [if_pos q3]
    clear h hl2 hy2 hr2 hc2 hnn
    go_enter Try.func20, Try.ntmps20
    go_wp2
    go_ret2
    exact ⟨_, rfl, Kd.R_nil _ _ _ _ _, HS.out, Moved.refl _ _ (Nat.le_of_lt HS.out.lt)⟩
  have b3 : decide (400 < (m2 : Int)) = false := decide_eq_false (by omega)
  have b4 : decide (400 < m2) = false := decide_eq_false q3
  rw [if_neg q3]
  by_cases q4 : 4294967296 ≤ n
  · have b5 : decide (4294967295 < n) = true := decide_eq_true (by omega)
    rw [if_pos q4]
    clear h hl2 hy2 hr2 hc2 hnn
    go_enter Try.func20, Try.ntmps20
    go_wp2
    go_ret2
    exact ⟨_, rfl, Kd.R_nil _ _ _ _ _, HS.out, Moved.refl _ _ (Nat.le_of_lt HS.out.lt)⟩
  rw [if_neg q4]
  exact kClose.ok g A c key n kind A2 c2 m2 l2 W h ⟨by omega, by omega⟩ (by omega) (by omega) hl2 hy2 hr2 hc2
theorem results_tmp4 {fn : Func} {t u v x : Tmp} (h : fn.results = #[.tmp t, .tmp u, .tmp v, .tmp x]) (tmps : Array Value) (P : Program) (w : World) :
    (results fn tmps).run P w = .ok (.tuple #[tmps.getD t undef, tmps.getD u undef, tmps.getD v undef, tmps.getD x undef]) w := by
  simp [results, h]
theorem equal.callsm (A0 : Option Addr) (c0 m0 : Nat) (l0 : List Int) (A1 : Option Addr) (c1 m1 : Nat) (l1 : List Int) (w : World) (hr0 : Kd.C (Kd.int .u8) w A0 m0 l0) (hc0 : m0 ≤ c0) (hr1 : Kd.C (Kd.int .u8) w A1 m1 l1) (hc1 : m1 ≤ c1) :
    Calls Try.prog 46 #[.slice A0 m0 c0, .slice A1 m1 c1] w fun e w' => e = .returned (.bool (eqB l0 l1)) ∧ Drawn0 w w' := by
  have h0 := hr0.1
  have h1 := hr1.1
  subst h0 h1
  exact bytes_Equal.calls A0 c0 l0 A1 c1 l1 _ w hr0 hc0 hr1 hc1 rfl
theorem or_be {a b : Int} (h1 : 0 ≤ a) (h2 : a ≤ 255) (h3 : 0 ≤ b) (h4 : b ≤ 255) : Go.bits .or .i64 (a * 256) b = 256 * a + b := by
  rw [or_i64' (by omega) (by omega) h3 (by omega)]
  unfold og
  have := Nat.two_pow_add_eq_or_of_lt (i := 8) (b := b.toNat) (by omega) a.toNat
  rw [show (a * 256).toNat = 2 ^ 8 * a.toNat by omega, ← this]
  omega
/-- Bytes cut at whole numbers. -/
theorem cut_to (A : Option Addr) (c m : Nat) (l : List Int) (hl : l.length = m) (hc : m ≤ c) (p : Nat) (hp : p ≤ m) : (∀ W : World, (Instr.slice 22 (.slice A m c) none (some (.int .i64 (p : Int))) none).run Try.prog W = .ok (.slice A p c) W) ∧ ∀ w : World, Kd.C (Kd.int .u8) w A m l → Kd.C (Kd.int .u8) w A p (l.take p) := by
  obtain ⟨i1, hi1, _, hsz1, _⟩ := info_parts info5
  subst hl
  obtain ⟨hcut, hC, _⟩ := print_take_of (P := Try.prog) (Value.int .u8) 0 22 5 .i64 Try.underlying22 hi1 hsz1 A c l (p : Int) (by omega) (by omega) hc
  have e : (l.take (p : Int).toNat).length = p := by rw [Int.toNat_natCast, List.length_take]; omega
  rw [e] at hcut
  refine ⟨hcut, fun w h => ?_⟩
  have h2 := Kd.C_of_reads (h1 := fun _ => rfl) (hC w (Kd.reads_of_C h))
  rw [e, Int.toNat_natCast] at h2
  exact h2
theorem cut_mid' (A : Option Addr) (c m : Nat) (l : List Int) (hl : l.length = m) (hc : m ≤ c) (p q : Nat) (hp : p ≤ q) (hq : q ≤ m) : ∃ A' : Option Addr, (∀ W : World, (Instr.slice 22 (.slice A m c) (some (.int .i64 (p : Int))) (some (.int .i64 (q : Int))) none).run Try.prog W = .ok (.slice A' (q - p) (c - p)) W) ∧ ∀ w : World, Kd.C (Kd.int .u8) w A m l → Kd.C (Kd.int .u8) w A' (q - p) ((l.take q).drop p) := by
  obtain ⟨i1, hi1, _, hsz1, _⟩ := info_parts info5
  subst hl
  obtain ⟨A', hcut, hC, _⟩ := print_mid_of (P := Try.prog) (Value.int .u8) 0 22 5 .i64 .i64 Try.underlying22 hi1 hsz1 A c l (p : Int) (q : Int) (by omega) (by omega) (by omega) hc
  have e : ((l.take (q : Int).toNat).drop (p : Int).toNat).length = q - p := by rw [Int.toNat_natCast, Int.toNat_natCast, List.length_drop, List.length_take]; omega
  rw [e, Int.toNat_natCast] at hcut
  refine ⟨A', hcut, fun w h => ?_⟩
  have h2 := Kd.C_of_reads (h1 := fun _ => rfl) (hC w (Kd.reads_of_C h))
  rw [e, Int.toNat_natCast, Int.toNat_natCast] at h2
  exact h2
theorem byte_at {l : List Int} (h : ByteL l) {i : Nat} (hi : i < l.length) : 0 ≤ l.getD i 0 ∧ l.getD i 0 ≤ 255 := by
  rw [List.getD_eq_getElem?_getD, List.getElem?_eq_getElem hi]
  exact h _ (List.getElem_mem _)
end Go.Proofs.Ytpkmfaloncclaaa.T
