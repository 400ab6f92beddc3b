/- The methods of the reference's session, on: closed bodies, Ticket, Close. Conditions: as each theorem says. -/
import Derived.Test.YtpkmfaloncclaaaS7
namespace Go.Proofs.Ytpkmfaloncclaaa.T
open Go Go.RowKit Go.Shelf Go.Proofs.Ytpkmfaloncclaaa.K Go.Proofs.Ytpkmfaloncclaaa.Pure Go.Proofs.YtpkmfaloncclaaaW.PrintWords Go.Proofs.YtpkmfaloncclaaaW.PrintLast Go.Proofs.YtpkmfaloncclaaaW.PrintMore Hand
attribute [local go_sem] Oper.semAt_some max2_int min2_int max_two min_two max_three min_three max_four min_four
set_option linter.unusedVariables false
theorem xorL_take {b st : List Int} (h : b.length = st.length) {i : Nat} (hi : i < st.length) : xorL (b.take (i + 1)) (st.take (i + 1)) = xorL (b.take i) (st.take i) ++ [xr (b.getD i 0) (st.getD i 0)] := by
  have hib : i < b.length := by omega
  rw [List.take_succ_eq_append_getElem hib, List.take_succ_eq_append_getElem hi, xorL_snoc _ _ _ _ (by rw [List.length_take, List.length_take]; omega)]
  simp [List.getD_eq_getElem?_getD, hi, hib]
set_option maxHeartbeats 8000000 in
set_option maxRecDepth 100000 in
theorem rcrypted.calls (g : Nat) (A : Option Addr) (c : Nat) (key : List Int) (n : Int) (A2 : Option Addr) (c2 m2 : Nat) (l2 : List Int) (W : World) (h : Sess 73 W g A c key n) (hb2 : ByteL l2) (hl2 : l2.length = m2) (hm2 : m2 ≤ 4000) (hr2 : Kd.C (Kd.int .u8) W A2 m2 l2) (hc2 : m2 ≤ c2) :
    Calls Try.prog 48 #[.pointer (some ⟨g, 0, none⟩), .slice A2 m2 c2] W fun e w' => ∃ (A1 : Option Addr) (c1 : Nat), e = .returned (.slice A1 m2 c1) ∧ Kd.R (Kd.int .u8) 5 w' W.heap.size (fun _ => True) (.slice A1 m2 c1) (appOf key n l2) ∧ Below W.heap.size W w' := by
  have HS := Aside0.mk h
  have k0 := h.c0
  have HY2 := Aside0.mk hb2
  have HL2 := Aside0.mk hl2
  have HR2 := Aside0.mk hr2
  have HC2 := Aside0.mk hc2
  have HM2 := Aside0.mk hm2
  have H01 : Aside0 ((0 : Int) ≤ 1 ∧ (1 : Int) ≤ 1) := ⟨by decide⟩
  clear h hb2 hl2 hr2 hc2 hm2
  go_enter Try.func48, Try.ntmps48
  go_wp2
  go_region_held3 (fun w' => w'.cell? ⟨g, 0, none⟩ = some (.slice A 32 c)) (first | exact (HS.out.below HB2.out).c0 | exact (HS.out.below HB1.out).c0 | exact HS.out.c0) (first
    | (go_at_call 62; (with_reducible refine (rnonce.calls g A c key n _ (HS.out.below (below_drew1 (Below.refl _ _)))).mono ?_); rintro e w1 ⟨A1, c1, rfl, ho, hb⟩; have HO1 := Aside0.mk ho; have HB1 := Aside0.mk (bel_d hb); clear ho hb)
    | (go_at_call 36; (with_reducible refine (rstream.calls A c key 1 A1 c1 (nonceOf n) m2 m2 _ HS.out.kb HS.out.len (nonceOf_byte n) (nonceOf_length n) H01.out ⟨rfl, HM2.out⟩ (Kd.C_below HS.out.kc HB1.out) HS.out.cap (R_at HO1.out).1 (R_at HO1.out).2).mono ?_); rintro e w2 ⟨A9, c9, rfl, ho, hb⟩; have HO2 := Aside0.mk ho; have HB2 := Aside0.mk (HB1.out.trans (hb.mono HB1.out.size)); clear ho hb))
  obtain ⟨st, hst⟩ : ∃ st, streamOf key 1 (nonceOf n) m2 = st := ⟨_, rfl⟩
  have HST := Aside0.mk hst
  have HLS : Aside0 (st.length = m2) := ⟨by have h := streamOf_length key 1 (nonceOf n) (n := (m2 : Int)) (by omega); rw [← hst]; omega⟩
  have HYS : Aside0 (ByteL st) := ⟨by rw [← hst]; exact streamOf_byte _ _ _ _⟩
  have HCS : Aside0 (Kd.C (Kd.int .u8) w2 A9 m2 st) := ⟨by rw [← hst]; exact (R_at HO2.out).1⟩
  have HR3 : Aside0 (Kd.C (Kd.int .u8) w2 A2 m2 l2) := ⟨Kd.C_below HR2.out HB2.out⟩
  clear hst k0
  all_goals go_wp2
  go_loopg [6, 7] m2 (fun q s6 s7 wx => ∃ i : Nat, i + q = m2 ∧ s7 = .int .i64 i ∧ Aside0 (Kd.R (Kd.int .u8) 5 wx w2.heap.size (fun _ => True) s6 (xorL (l2.take i) (st.take i))) ∧ Aside0 (Below w2.heap.size w2 wx))
  case atStart => exact ⟨0, by omega, rfl, ⟨by simp only [List.take_zero, xorL]; exact Kd.R_nil _ _ _ _ _⟩, ⟨Below.refl _ _⟩⟩
  case round =>
    obtain ⟨i, hig, rfl, HO, HB⟩ := hrel
    cases gk with
    | succ q =>
      have hi : i < m2 := by omega
      have HI := Aside0.mk hi
      have hi2 : (i : Int) < (m2 : Int) := by omega
      have hi0 : (0 : Int) ≤ (i : Int) := by omega
      have hmx : (i : Int) + 1 ≤ 4000 := by have := HM2.out; omega
      obtain ⟨s, hs⟩ : ∃ s, st.getD i 0 = s := ⟨_, rfl⟩
      obtain ⟨b, hb⟩ : ∃ b, l2.getD i 0 = b := ⟨_, rfl⟩
      have hsb : 0 ≤ s ∧ s ≤ 255 := by rw [← hs]; exact byte_at HYS.out (by rw [HLS.out]; exact hi)
      have hbb : 0 ≤ b ∧ b ≤ 255 := by rw [← hb]; exact byte_at HY2.out (by rw [HL2.out]; exact hi)
      have x1 : Go.bits .xor .u8 b s = xr b s := xor_u8 hbb.1 hbb.2 hsb.1 hsb.2
      obtain ⟨ad, e, hx⟩ := (Kd.reads_of_C (enc := Value.int .u8) (d := (0 : Int)) (h1 := fun _ => rfl) HR3.out).2.2 (by omega)
      obtain ⟨ak, e2, hy⟩ := (Kd.reads_of_C (enc := Value.int .u8) (d := (0 : Int)) (h1 := fun _ => rfl) HCS.out).2.2 (by omega)
      subst e
      subst e2
      have HK2 : Aside0 (w2.cell? (ad.add i) = some (.int .u8 b)) := ⟨by rw [← hb]; exact hx i hi⟩
      have HK1 : Aside0 (w2.cell? (ak.add i) = some (.int .u8 s)) := ⟨by rw [← hs]; exact hy i hi⟩
      have HX : Aside0 (xorL (l2.take (i + 1)) (st.take (i + 1)) = xorL (l2.take i) (st.take i) ++ [xr b s]) := ⟨by rw [← hs, ← hb]; exact xorL_take (by rw [HL2.out, HLS.out]) (by rw [HLS.out]; exact hi)⟩
      have HXL : Aside0 ((xorL (l2.take i) (st.take i)).length = i) := ⟨by have h1 := HL2.out; have h2 := HLS.out; rw [xorL_length _ _ (by rw [List.length_take, List.length_take]; omega), List.length_take]; omega⟩
      clear hs hb hsb hbb hx hy
      go_wp2
      go_region_held3 (fun w' => w'.cell? (ad.add i) = some (.int .u8 b) ∧ w'.cell? (ak.add i) = some (.int .u8 s)) (first | exact ⟨pw_cell_below HB4.out HK2.out, pw_cell_below HB4.out HK1.out⟩ | exact ⟨pw_cell_below (below_alloc HB.out _) HK2.out, pw_cell_below (below_alloc HB.out _) HK1.out⟩ | exact ⟨pw_cell_below (below_drew1 (below_alloc HB.out _)) HK2.out, pw_cell_below (below_drew1 (below_alloc HB.out _)) HK1.out⟩ | exact ⟨pw_cell_below HB.out HK2.out, pw_cell_below HB.out HK1.out⟩) (
        (refine Kd.R_append_rows_step (Kd.int .u8) (w0 := w2) w2.heap.size (by rfl) (.tmp 23) (.tmp 33) 22 5 (.int .u8 0) 1 rfl Try.underlying22 info5 rfl (by decide) (by omega) _ (xorL (l2.take i) (st.take i)) [xr b s] _ 1 _ (fun _ => True) (fun _ => False) (by rfl) (by rfl) (by (with_reducible repeat (first | apply Kd.R_alloc | apply Kd.R_drewN | apply Kd.R_drew)); exact HO.out) (by first | exact (Kd.R_reads' (lit_R _ wr.heap.size [xr b s] (Nat.le_refl _) (by simp))).2.2 | exact Kd.C_drew (Kd.R_reads' (lit_R _ wr.heap.size [xr b s] (Nat.le_refl _) (by simp))).2.2) (fun _ _ h => h) (fun _ h => h.elim) (fun _ _ => trivial) (by repeat (first | (with_reducible first | exact HB.out | apply below_alloc | apply pw_below_drewN | apply below_drew1) | exact HB.out)) ?aS ?aL ?_; (case aS => have := HB.out.size; simp; omega); (case aL => rw [HXL.out]; have := HI.out; have := HM2.out; omega); intro v4 w4 ho hb _ _; rw [← HX.out] at ho; have HO4 := Aside0.mk ho; have HB4 := Aside0.mk hb; clear ho hb))
      all_goals go_wp2
      go_roundg q
      case measure => omega
      case rel => exact ⟨i + 1, by omega, by first | rfl | simp, HO4, HB4⟩
    | zero =>
      obtain rfl : i = m2 := by omega
      go_wp2
      go_ret
      have ho := HO.out
      rw [show xorL (l2.take i) (st.take i) = appOf key n l2 from by rw [List.take_of_length_le (by rw [HL2.out]; exact Nat.le_refl _), List.take_of_length_le (by rw [HLS.out]; exact Nat.le_refl _), ← HST.out, ← HL2.out]; rfl] at ho
      obtain ⟨A5, c5, e5⟩ := Kd.R_slice ho
      rw [appOf_length, HL2.out] at e5
      subst e5
      exact ⟨A5, c5, rfl, Kd.R_lower ho HB2.out.size, HB2.out.trans (HB.out.mono HB2.out.size)⟩
theorem rticket.calls (A0 : Option Addr) (c0 : Nat) (key : List Int) (n : Int) (w : World) (hl : key.length = 32) (hk : ByteL key) (hr0 : Kd.C (Kd.int .u8) w A0 32 key) (hc0 : 32 ≤ c0) :
    Calls Try.prog 51 #[.slice A0 32 c0, .int .i64 n] w fun e w' => ∃ (A1 : Option Addr) (c1 : Nat), e = .returned (.slice A1 20 c1) ∧ Kd.R (Kd.int .u8) 5 w' w.heap.size (fun _ => True) (.slice A1 20 c1) (tickOf key n) ∧ Below w.heap.size w w' := by
  have h2 := wireglassref21_ticket.calls 5 A0 c0 key n _ w (by rw [hl]; exact hr0) (by rw [hl]; exact hc0) (tick_ref key hl hk n)
  rw [hl] at h2
  refine h2.mono ?_
  rintro e w' ⟨v, rfl, ho, hb⟩
  obtain ⟨A, c, e⟩ := Kd.R_slice ho
  rw [tickOf_length] at e
  subst e
  exact ⟨A, c, rfl, ho, hb⟩
set_option maxHeartbeats 8000000 in
set_option maxRecDepth 100000 in
theorem rTicket.calls (g : Nat) (A : Option Addr) (c : Nat) (key : List Int) (n : Int) (W : World) (h : Sess 73 W g A c key n) :
    Calls Try.prog 30 #[.pointer (some ⟨g, 0, none⟩)] W fun e w' => ∃ v, e = .returned (.tuple #[v, .int .i64 (tickA key n).2]) ∧ Kd.R (Kd.int .u8) 5 w' W.heap.size (fun _ => True) v (tickA key n).1 ∧ Below W.heap.size W w' := by
  have HS := Aside0.mk h
  have k0 := h.c0
  have k1 := h.c1
  clear h
  by_cases hn : 4294967296 ≤ n
  · have hnb : decide (4294967296 ≤ n) = true := decide_eq_true (by omega)
    have HA : Aside0 (tickA key n = ([], 12)) := ⟨by unfold tickA; rw [if_pos hn]⟩
    rw [HA.out]
    clear hn
    go_enter Try.func30, Try.ntmps30
    go_wp2
    go_ret2
    exact ⟨_, rfl, Kd.R_nil _ _ _ _ _, Below.refl _ _⟩
  · have hnb : decide (4294967296 ≤ n) = false := decide_eq_false (by omega)
    have HA : Aside0 (tickA key n = (tickOf key n, 0)) := ⟨by unfold tickA; rw [if_neg hn]⟩
    rw [HA.out]
    clear hn
    go_enter Try.func30, Try.ntmps30
    go_wp2
    go_region_held3 (fun w' => w'.cell? ⟨g, 0, none⟩ = some (.slice A 32 c) ∧ w'.cell? ⟨g, 1, none⟩ = some (.int .i64 n)) (first | exact ⟨(HS.out.below HB1.out).c0, (HS.out.below HB1.out).c1⟩ | exact ⟨HS.out.c0, HS.out.c1⟩) (first
      | (go_at_call 51; (with_reducible refine (rticket.calls A c key n _ HS.out.len HS.out.kb (Kd.C_drew HS.out.kc) HS.out.cap).mono ?_); rintro e w1 ⟨A1, c1, rfl, ho, hb⟩; have HO1 := Aside0.mk ho; have HB1 : Aside0 (Below W.heap.size W w1) := ⟨bel_d hb⟩; clear ho hb))
    all_goals go_wp2
    go_ret2
    exact ⟨_, rfl, HO1.out, HB1.out⟩
end Go.Proofs.Ytpkmfaloncclaaa.T
