/- The statement VoiceCalls walked; a slice of acts opened; the wrap. Conditions: as each theorem says. -/
import Derived.Test.YtbloalfgbpgepaaDoorC6
import Derived.Test.YtbloalfgbpgepaaDoorRows
import Derived.Lib.LaidTab
import Derived.LaidMore
import Derived.Lay
import Derived.Shelf.Lay
import Derived.HandedShaped
import Derived.Handed
import Derived.Shelf.Vars
import Derived.ProofKit
import Derived.OpenShut
import Derived.SizedLaws
import Derived.Deep.Slices
import Derived.Deep.Fields
import Derived.ChangeSame
import Derived.ChangeSlices
import Derived.Test.YtbloalfgbpgepaaDoorCx2
import Derived.Test.YtbloalfgbpgepaaDoorCx5
import Derived.Test.YtbloalfgbpgepaaDoorCx6
namespace Go.Proofs.YtbloalfgbpgepaaDoor.T
open Go Go.RowKit Go.Shelf Go.Proofs.YtbloalfgbpgepaaDoor.C Go.Proofs.YtbloalfgbpgepaaDoorW.PrintWords Go.Proofs.YtbloalfgbpgepaaDoorW.PrintLast Go.Proofs.YtbloalfgbpgepaaDoorW.PrintMore Hand
attribute [local go_sem] Oper.semAt_some max2_int min2_int max_two min_two max_three min_three max_four min_four
set_option linter.unusedVariables false
set_option linter.unusedSimpArgs false
/-- A slice of texts. -/
def HoldsT (A : Option Addr) (n c : Nat) (l : List ByteArray) (W : World) : Prop := n = l.length ∧ n ≤ c ∧ Kd.C Kd.string W A n l
theorem HoldsT.of {v : Value} {l : List ByteArray} {W : World} {base : Nat} {ok : Nat → Prop} (h : Kd.R Kd.string 9 W base ok v l) : ∃ A n c, v = .slice A n c ∧ HoldsT A n c l W := by
  obtain ⟨A, c, rfl⟩ := Kd.R_slice h
  exact ⟨A, _, c, rfl, rfl, (Kd.R_reads' h).2.1, (Kd.R_reads' h).2.2⟩
theorem HoldsT.move {A : Option Addr} {n c : Nat} {l : List ByteArray} {W W' : World} (h : HoldsT A n c l W) (hb : Below W.heap.size W W') : HoldsT A n c l W' := ⟨h.1, h.2.1, Kd.C_below h.2.2 hb⟩
theorem knownC.calls (W : World) : Calls Tryd.prog 4 #[] W fun e w' => e = .returned (.bool true) ∧ Below W.heap.size W w' := wireglasslaw25_known.calls 200 true W knownC_k
theorem lawP (A0 : Option Addr) (c0 M : Nat) (l0 : List TA) (w : World) (hM : l0.length = M) (hr0 : Kd.C k25 w A0 M l0) (hc0 : M ≤ c0) (hz : ∀ x ∈ l0, x.f4.size ≤ 9223372036854775806) (htab : Lib.TabIs Tryd.prog w "internal/strconv.uint64pow10" .u64 Lib.pow10Tab) (ls : List ByteArray) (er : Int) (hp : callsP l0 = (ls, er)) (W : World) (hb : Below w.heap.size w W) :
    Calls Tryd.prog 5 #[.slice A0 M c0] W fun e w' => ∃ A n c, e = .returned (.tuple #[.slice A n c, .int .i64 er]) ∧ HoldsT A n c ls w' ∧ Below w.heap.size w w' := by
  subst hM
  refine (pcalls.calls A0 c0 l0 W (Kd.C_below hr0 hb) hc0 hz (tab_below htab hb rfl)).mono ?_
  rintro e w' ⟨v, rfl, hR, hbl⟩
  rw [hp] at hR
  obtain ⟨A, n, c, rfl, hh⟩ := HoldsT.of hR
  exact ⟨A, n, c, by rw [hp], hh, hb.trans (hbl.mono hb.size)⟩
theorem lawR (A0 : Option Addr) (c0 M : Nat) (l0 : List TA) (w : World) (hM : l0.length = M) (hr0 : Kd.C k25 w A0 M l0) (hc0 : M ≤ c0) (ls : List ByteArray) (er : Int) (hp : callsP l0 = (ls, er)) (W : World) (hb : Below w.heap.size w W) :
    Calls Tryd.prog 6 #[.slice A0 M c0] W fun e w' => ∃ A n c, e = .returned (.tuple #[.slice A n c, .int .i64 er]) ∧ HoldsT A n c ls w' ∧ Below W.heap.size W w' := by
  subst hM
  obtain ⟨k, hk⟩ := (callsR_ev l0).rounds
  rw [hp] at hk
  refine (rCalls.calls k A0 c0 l0 ls er W (Kd.C_below hr0 hb) hc0 hk).mono ?_
  rintro e w' ⟨v, rfl, hR, hbl⟩
  obtain ⟨A, n, c, rfl, hh⟩ := HoldsT.of hR
  exact ⟨A, n, c, rfl, hh, hbl⟩
theorem sameT (A1 A2 : Option Addr) (n1 c1 n2 c2 : Nat) (l : List ByteArray) (hl : l.length ≤ 200) (W : World) (h1 : HoldsT A1 n1 c1 l W) (h2 : HoldsT A2 n2 c2 l W) :
    Calls Tryd.prog 7 #[.slice A1 n1 c1, .slice A2 n2 c2] W fun e w' => e = .returned (.bool true) ∧ Below W.heap.size W w' := by
  obtain ⟨rfl, h12, h13⟩ := h1
  obtain ⟨rfl, h22, h23⟩ := h2
  obtain ⟨k, hk⟩ := (sameT_ev l hl).rounds
  refine (wireglassref02_SameTexts.calls k A1 c1 l A2 c2 l true W h13 h12 h23 h22 hk).mono ?_
  rintro e w' ⟨rfl, hd⟩
  exact ⟨rfl, by obtain ⟨n, rfl⟩ := hd; exact pw_below_drewN (Below.refl _ _) n⟩
set_option maxHeartbeats 8000000 in
set_option maxRecDepth 100000 in
theorem VoiceCalls.walk0 (A0 : Option Addr) (c0 : Nat) (l0 : List TA) (w : World) (hr0 : Kd.C k25 w A0 l0.length l0) (hc0 : l0.length ≤ c0) (hml : l0.length ≤ 140737488351232) (hz : ∀ x ∈ l0, x.f4.size ≤ 140737488351232) (htab : Lib.TabIs Tryd.prog w "internal/strconv.uint64pow10" .u64 Lib.pow10Tab) :
    Calls Tryd.prog 3 #[.slice A0 l0.length c0] w fun e w' => e = .returned (.bool true) ∧ Below w.heap.size w w' := by
  obtain ⟨ls, er, hp⟩ : ∃ ls er, callsP l0 = (ls, er) := ⟨_, _, rfl⟩
  have hll : ls.length ≤ 200 := by have := callsP_len l0; rw [hp] at this; exact this
  obtain ⟨M, hM⟩ : ∃ M, l0.length = M := ⟨_, rfl⟩
  rw [hM] at hr0 hc0 hml ⊢
  have HLP := Aside0.mk (fun W hb => lawP A0 c0 M l0 w hM hr0 hc0 (fun x hx => Nat.le_trans (hz x hx) (by omega)) htab ls er hp W hb)
  have HLR := Aside0.mk (fun W hb => lawR A0 c0 M l0 w hM hr0 hc0 ls er hp W hb)
  have HLL := Aside0.mk hll
  have HR0 := Aside0.mk hr0
  have HM := Aside0.mk hM
  have HZ := Aside0.mk hz
  clear hp hll hr0 hM htab hz
  go_enter Tryd.func3, Tryd.ntmps3
  go_wp2
  go_loopg [3, 4] M (fun kq v3 v4 w' => ∃ (n : Int) (i : Nat), v3 = .int .i64 n ∧ v4 = .int .i64 i ∧ i + kq = M ∧ Aside0 (Below w.heap.size w w'))
  case atStart => exact ⟨_, 0, rfl, rfl, by omega, ⟨Below.refl _ _⟩⟩
  case round =>
    obtain ⟨n, i, rfl, rfl, hk, HB⟩ := hrel
    by_cases c1 : i < M
    · have i0 : (0 : Int) ≤ (i : Int) := by omega
      have i1 : (i : Int) < (M : Int) := by omega
      have i2 : IntKind.i64.wrap ((i : Int) + 1) = (i : Int) + 1 := by rw [IntKind.wrap_i64]; omega
      obtain ⟨ad, A5, c5, e, y0, y1, y2, y3, y4, y5, _, _⟩ := at_T25 (Kd.C_below HR0.out HB.out) i i0 i1
      cases e
      rw [Int.toNat_natCast] at y0 y1 y2 y3 y4 y5
      go_wp2
      obtain ⟨q, rfl⟩ : ∃ q, gk = q + 1 := ⟨gk - 1, by omega⟩
      go_roundg q
      case measure => omega
      case rel => exact ⟨_, i + 1, rfl, by simp, by omega, HB⟩
    · have e1 : decide ((i : Int) < (M : Int)) = false := decide_eq_false (by omega)
      have e2 : ¬ ((i : Int) < (M : Int)) := by omega
      by_cases q9 : 40000 < n
      · have e3 : decide (40000 < n) = true := decide_eq_true q9
        go_wp2_with (go_at_call 4; (with_reducible refine (knownC.calls _).mono ?_); rintro e w2 ⟨rfl, hb⟩; have HB2 : Aside0 (Below w.heap.size w w2) := ⟨HB.out.trans (hb.mono HB.out.size)⟩; clear hb)
        go_ret
        exact ⟨rfl, HB2.out⟩
      · have e3 : decide (40000 < n) = false := decide_eq_false q9
        go_wp2_with (first
          | (go_at_call 5; (with_reducible refine (HLP.out _ HB.out).mono ?_); rintro e w2 ⟨A2, n2, c2, rfl, hh, hb⟩; have HH2 := Aside0.mk hh; have HB2 := Aside0.mk hb; clear hh hb)
          | (go_at_call 6; (with_reducible refine (HLR.out _ HB2.out).mono ?_); rintro e w3 ⟨A3, n3, c3, rfl, hh, hb⟩; have HH3 := Aside0.mk hh; have HH2' := Aside0.mk (HH2.out.move hb); have HB3 := Aside0.mk (HB2.out.trans (hb.mono HB2.out.size)); clear hh hb)
          | (go_at_call 7; (with_reducible refine (sameT A2 A3 n2 c2 n3 c3 ls HLL.out _ HH2'.out HH3.out).mono ?_); rintro e w4 ⟨rfl, hb⟩; have HB4 := Aside0.mk (HB3.out.trans (hb.mono HB3.out.size)); clear hb)
          | (go_at_call 4; (with_reducible refine (knownC.calls _).mono ?_); rintro e w5 ⟨rfl, hb⟩; have HB5 : Aside0 (Below w.heap.size w w5) := ⟨HB4.out.trans (hb.mono HB4.out.size)⟩; clear hb))
        go_ret
        exact ⟨rfl, HB5.out⟩
end Go.Proofs.YtbloalfgbpgepaaDoor.T
