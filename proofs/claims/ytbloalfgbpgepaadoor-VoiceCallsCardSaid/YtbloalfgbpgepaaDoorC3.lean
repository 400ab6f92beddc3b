/- The place of a call of a number, walked. Conditions: as each theorem says. -/
import Derived.Test.YtbloalfgbpgepaaDoorC2
import Derived.Test.YtbloalfgbpgepaaDoorHKey
import Derived.Deep.RegionLaw
namespace Go.Proofs.YtbloalfgbpgepaaDoor.T
open Go Go.RowKit Go.Shelf Go.Proofs.YtbloalfgbpgepaaDoor.C Go.Proofs.YtbloalfgbpgepaaDoorW.PrintWords Go.Proofs.YtbloalfgbpgepaaDoorW.PrintLast Go.Proofs.YtbloalfgbpgepaaDoorW.PrintMore Hand
attribute [local go_sem] Oper.semAt_some max2_int min2_int max_two min_two max_three min_three max_four min_four
set_option linter.unusedVariables false
set_option linter.unusedSimpArgs false
abbrev TS := S48
/-- A row of pointers, told by the blocks they point to. -/
def kp : Kd Nat := Kd.scalar (fun p => Value.pointer (some ⟨p, 0, none⟩)) (fun _ => rfl)
/-- The calls behind pointers. -/
def CallsAt (W : World) (N : Nat) (ps : List Nat) (L : List TS) : Prop := ps.length = L.length ∧ ps.Nodup ∧ ∀ (i p : Nat) (y : TS), ps[i]? = some p → L[i]? = some y → N ≤ p ∧ CallAt W p y
def idx : List TS → Int → Int → Int
  | [], _, _ => -1
  | y :: r, a, i => if y.f0 = a then i else idx r a (i + 1)
theorem kp_at {w : World} {A : Option Addr} {n : Nat} {ps : List Nat} (h : Kd.C kp w A n ps) (i : Nat) (hi : i < n) : ∃ ad p, A = some ad ∧ ps[i]? = some p ∧ w.cell? (ad.add i) = some (.pointer (some ⟨p, 0, none⟩)) := by
  have hl : ps.length = n := h.1
  obtain ⟨ad, e, hx⟩ := ReadsOf.at_ (Kd.reads_of_C (enc := fun p : Nat => Value.pointer (some ⟨p, 0, none⟩)) (d := (0 : Nat)) (h1 := fun _ => rfl) h) (i : Int) (by omega) (by omega)
  refine ⟨ad, ps[i]'(by omega), e, List.getElem?_eq_getElem _, ?_⟩
  rw [Int.toNat_natCast] at hx
  rw [hx]
  unfold rdOf
  rw [Int.toNat_natCast, List.getD_eq_getElem?_getD, List.getElem?_eq_getElem (by omega)]
  rfl
set_option maxHeartbeats 4000000 in
set_option maxRecDepth 100000 in
theorem same.calls (p b : Nat) (y : TS) (op a B c : Int) (s : ByteArray) (A5 : Option Addr) (n5 c5 : Nat) (W : World) (h : CallAt W p y) (hb : W.heap[b]? = some (.cells #[.int .i64 op, .int .i64 a, .int .i64 B, .int .i64 c, .string s, .slice A5 n5 c5] 25)) :
    Calls Tryd.prog 12 #[.pointer (some ⟨p, 0, none⟩), .pointer (some ⟨b, 0, none⟩)] W fun e w' => e = .returned (.bool (decide (y.f0 = a))) ∧ Below W.heap.size W w' := by
  have k0 := blk_cell h 0
  have k1 := blk_cell hb 1
  clear h hb
  go_enter Tryd.func12, Tryd.ntmps12
  go_wp2
  go_quiet (fail)
  go_wp2
  go_ret
  exact ⟨congrArg (fun x => Ending.returned (.bool x)) (by rw [Bool.eq_iff_iff]; simp), (by first | exact pw_below_drewN (Below.refl _ _) _ | exact pw_below_drewN (Below.refl _ _) | exact pw_below_drewN _ (Below.refl _ _))⟩
set_option maxHeartbeats 4000000 in
set_option maxRecDepth 100000 in
theorem index.calls (A0 : Option Addr) (c0 N : Nat) (ps : List Nat) (L : List TS) (b : Nat) (op a B c : Int) (s : ByteArray) (A5 : Option Addr) (n5 c5 : Nat) (w : World) (hr0 : Kd.C kp w A0 ps.length ps) (hc0 : ps.length ≤ c0) (hL : CallsAt w N ps L) (hb : w.heap[b]? = some (.cells #[.int .i64 op, .int .i64 a, .int .i64 B, .int .i64 c, .string s, .slice A5 n5 c5] 25)) :
    Calls Tryd.prog 11 #[.slice A0 ps.length c0, .func (.func 12) #[] #[.pointer (some ⟨b, 0, none⟩)]] w fun e w' => e = .returned (.int .i64 (idx L a 0)) ∧ Below w.heap.size w w' := by
  have hm := Kd.C_max hr0
  have HR0 := Aside0.mk hr0
  have HL0 := Aside0.mk hL
  have HBX := Aside0.mk hb
  clear hr0 hL hb
  obtain ⟨R, hR⟩ : ∃ R, idx L a 0 = R := ⟨_, rfl⟩
  rw [hR]
  have H' := Aside0.mk hR
  clear hR
  obtain ⟨M, hM⟩ : ∃ M, ps.length = M := ⟨_, rfl⟩
  have HM := Aside0.mk hM
  have HLL : Aside0 (L.length = M) := ⟨by rw [← hM]; exact HL0.out.1.symm⟩
  rw [hM] at HR0 hm hc0 ⊢
  clear hM
  go_enter Tryd.func11, Tryd.ntmps11
  go_wp2
  go_loopg [8] M (fun kq v8 w' => ∃ i : Nat, v8 = .int .i64 i ∧ i + kq = M ∧ Aside0 (idx (L.drop i) a i = R) ∧ Aside0 (Below w.heap.size w w'))
  case atStart => exact ⟨0, rfl, by omega, H', ⟨Below.refl _ _⟩⟩
  case round =>
    clear H'
    obtain ⟨i, rfl, hk, HA, HB⟩ := hrel
    by_cases c1 : i < M
    · obtain ⟨ad, p, e, hp, y0⟩ := kp_at (Kd.C_below HR0.out HB.out) i c1
      subst e
      have hiL : i < L.length := by rw [HLL.out]; exact c1
      obtain ⟨x, hx⟩ : ∃ x, L[i] = x := ⟨_, rfl⟩
      have hd : L.drop i = x :: L.drop (i + 1) := by rw [List.drop_eq_getElem_cons hiL, hx]
      have HCA : Aside0 (CallAt w p x) := ⟨(HL0.out.2.2 i p x hp (by rw [List.getElem?_eq_getElem hiL, hx])).2⟩
      have i0 : (0 : Int) ≤ (i : Int) := by omega
      have i1 : (i : Int) < (M : Int) := by omega
      have HA2 := HA.out
      clear HA hx hp
      rw [hd, idx] at HA2
      clear hd
      have hw : IntKind.i64.wrap ((i : Int) + 1) = (i : Int) + 1 := by rw [IntKind.wrap_i64]; omega
      have HCS : Aside0 (∀ w', Below w.heap.size w w' → Calls Tryd.prog 12 #[.pointer (some ⟨p, 0, none⟩), .pointer (some ⟨b, 0, none⟩)] w' fun e w'' => e = .returned (.bool (decide (x.f0 = a))) ∧ Below w'.heap.size w' w'') := ⟨fun w' h => same.calls p b x op a B c s A5 n5 c5 w' (HCA.out.below h (blk_lt HCA.out)) ((h.block b (blk_lt HBX.out)).trans HBX.out)⟩
      obtain ⟨t, ht⟩ : ∃ t, decide (x.f0 = a) = t := ⟨_, rfl⟩
      rw [ht] at HCS
      cases t with
      | false =>
        rw [if_neg (of_decide_eq_false ht)] at HA2
        have H' := Aside0.mk HA2
        clear HA2 ht
        obtain ⟨q, rfl⟩ : ∃ q, gk = q + 1 := ⟨gk - 1, by omega⟩
        go_wp2_with (go_at_call 12; (with_reducible refine (HCS.out _ HB.out).mono ?_); rintro e w' ⟨rfl, hb⟩; have HB1 := Aside0.mk (HB.out.trans (hb.mono HB.out.size)); clear hb)
        go_roundg q
        case measure => omega
        case rel => exact ⟨i + 1, by simp, by omega, ⟨by rw [← H'.out]; rfl⟩, HB1⟩
      | true =>
        rw [if_pos (of_decide_eq_true ht)] at HA2
        subst HA2
        clear ht
        go_wp2_with (go_at_call 12; (with_reducible refine (HCS.out _ HB.out).mono ?_); rintro e w' ⟨rfl, hb⟩; have HB1 := Aside0.mk (HB.out.trans (hb.mono HB.out.size)); clear hb)
        go_ret
        exact ⟨rfl, HB1.out⟩
    · have hd : L.drop i = [] := List.drop_eq_nil_of_le (by rw [HLL.out]; omega)
      have HA2 := HA.out
      clear HA
      rw [hd, idx] at HA2
      subst HA2
      clear hd
      go_wp2
      go_ret
      exact ⟨rfl, HB.out⟩
end Go.Proofs.YtbloalfgbpgepaaDoor.T
