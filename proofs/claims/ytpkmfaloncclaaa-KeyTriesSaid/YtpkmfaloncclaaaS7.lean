/- The methods of the reference's session, walked: nonces, closed bodies, tags, tickets, numbers. Conditions: as each theorem says. -/
import Derived.Test.YtpkmfaloncclaaaS6
import Derived.Test.YtpkmfaloncclaaaKx6
import Derived.Test.YtpkmfaloncclaaaKx7
import Derived.Test.YtpkmfaloncclaaaKx8
namespace Go.Proofs.Ytpkmfaloncclaaa.T
open Go Go.RowKit Go.Shelf Go.Proofs.Ytpkmfaloncclaaa.K Go.Proofs.Ytpkmfaloncclaaa.Pure Go.Proofs.YtpkmfaloncclaaaW.PrintWords Go.Proofs.YtpkmfaloncclaaaW.PrintLast Go.Proofs.YtpkmfaloncclaaaW.PrintMore Hand
attribute [local go_sem] Oper.semAt_some max2_int min2_int max_two min_two max_three min_three max_four min_four
set_option linter.unusedVariables false
theorem rhigh4.calls (n : Int) (w : World) : Calls Try.prog 49 #[.int .i64 n, .int .i64 4] w fun e w' => ∃ (A : Option Addr) (c : Nat), e = .returned (.slice A 4 c) ∧ Kd.R (Kd.int .u8) 5 w' w.heap.size (fun _ => True) (.slice A 4 c) (be4 n) ∧ Below w.heap.size w w' := by
  refine (wireglassref21_high.calls 5 n 4 _ w (high4 n)).mono ?_
  rintro e w' ⟨v, rfl, ho, hb⟩
  obtain ⟨A, c, e⟩ := Kd.R_slice ho
  have e2 : (be4 n).length = 4 := rfl
  rw [e2] at e
  subst e
  exact ⟨A, c, rfl, ho, hb⟩
theorem rhigh2.calls (n : Int) (w : World) : Calls Try.prog 49 #[.int .i64 n, .int .i64 2] w fun e w' => ∃ (A : Option Addr) (c : Nat), e = .returned (.slice A 2 c) ∧ Kd.R (Kd.int .u8) 5 w' w.heap.size (fun _ => True) (.slice A 2 c) (be2 n) ∧ Below w.heap.size w w' := by
  refine (wireglassref21_high.calls 3 n 2 _ w (high2 n)).mono ?_
  rintro e w' ⟨v, rfl, ho, hb⟩
  obtain ⟨A, c, e⟩ := Kd.R_slice ho
  have e2 : (be2 n).length = 2 := rfl
  rw [e2] at e
  subst e
  exact ⟨A, c, rfl, ho, hb⟩
theorem rstream.calls (A0 : Option Addr) (c0 : Nat) (key : List Int) (a : Int) (A2 : Option Addr) (c2 : Nat) (l2 : List Int) (n : Int) (m : Nat) (w : World) (hk : ByteL key) (hl : key.length = 32) (hb2 : ByteL l2) (hl2 : l2.length = 12) (ha : 0 ≤ a ∧ a ≤ 1) (hn : n = (m : Int) ∧ m ≤ 4000) (hr0 : Kd.C (Kd.int .u8) w A0 32 key) (hc0 : 32 ≤ c0) (hr2 : Kd.C (Kd.int .u8) w A2 12 l2) (hc2 : 12 ≤ c2) :
    Calls Try.prog 36 #[.slice A0 32 c0, .int .i64 a, .slice A2 12 c2, .int .i64 n] w fun e w' => ∃ (A9 : Option Addr) (c9 : Nat), e = .returned (.slice A9 m c9) ∧ Kd.R (Kd.int .u8) 5 w' w.heap.size (fun _ => True) (.slice A9 m c9) (streamOf key a l2 n) ∧ Below w.heap.size w w' := by
  obtain ⟨_, ⟨k, h⟩⟩ := stream_at hk hl hb2 hl2 (n := n) ha (by omega)
  have hm : (streamOf key a l2 n).length = m := by have := streamOf_length key a l2 (n := n) (by omega); omega
  have h2 := wireglassref21_stream.calls k A0 c0 key a A2 c2 l2 n _ w (by rw [hl]; exact hr0) (by rw [hl]; exact hc0) (by rw [hl2]; exact hr2) (by rw [hl2]; exact hc2) h
  rw [hl, hl2] at h2
  refine h2.mono ?_
  rintro e w' ⟨v, rfl, ho, hb⟩
  obtain ⟨A, c, e⟩ := Kd.R_slice ho
  rw [hm] at e
  subst e
  exact ⟨A, c, rfl, ho, hb⟩
theorem rNumber.calls (g : Nat) (A : Option Addr) (c : Nat) (key : List Int) (n : Int) (W : World) (h : Sess 73 W g A c key n) :
    Calls Try.prog 22 #[.pointer (some ⟨g, 0, none⟩)] W fun e w' => e = .returned (.int .i64 n) ∧ W = w' := by
  have k1 := h.c1
  clear h
  go_enter Try.func22, Try.ntmps22
  go_wp2
  go_ret
  exact ⟨rfl, rfl⟩
set_option maxHeartbeats 8000000 in
set_option maxRecDepth 100000 in
theorem rnonce.calls (g : Nat) (A : Option Addr) (c : Nat) (key : List Int) (n : Int) (W : World) (h : Sess 73 W g A c key n) :
    Calls Try.prog 62 #[.pointer (some ⟨g, 0, none⟩)] W fun e w' => ∃ (A1 : Option Addr) (c1 : Nat), e = .returned (.slice A1 12 c1) ∧ Kd.R (Kd.int .u8) 5 w' W.heap.size (fun _ => True) (.slice A1 12 c1) (nonceOf n) ∧ Below W.heap.size W w' := by
  have HS := Aside0.mk h
  have k1 := h.c1
  have hmk := make8
  clear h
  go_enter Try.func62, Try.ntmps62
  go_wp2
  go_region_held3 (fun w' => w'.cell? ⟨g, 1, none⟩ = some (.int .i64 n)) (first | exact (HS.out.below HB4.out).c1 | exact (HS.out.below (below_alloc HB3.out _)).c1 | exact (HS.out.below HB3.out).c1 | exact (HS.out.below (below_alloc (below_drew1 (Below.refl _ _)) _)).c1 | exact HS.out.c1) (first
    | (go_at_call 49; (with_reducible refine (rhigh4.calls n _).mono ?_); rintro e w3 ⟨A3, c3, rfl, ho, hb⟩; have HLIT := Aside0.mk (lit_below (l := List.replicate 8 0) (by simp) hb); have HO3 := Aside0.mk ho; have HB3 : Aside0 (Below W.heap.size W w3) := ⟨bel_a hb⟩; clear ho hb)
    | (go_at_call 49; (with_reducible refine (rhigh4.calls n _).mono ?_); rintro e w3 ⟨A3, c3, rfl, ho, hb⟩; have HO3 := Aside0.mk ho; have HB3 : Aside0 (Below W.heap.size W w3) := ⟨bel_d hb⟩; clear ho hb)
    | (refine Kd.R_append_rows_step (Kd.int .u8) (w0 := W) W.heap.size (by rfl) (.tmp 3) (.tmp 8) 22 5 (.int .u8 0) 1 rfl Try.underlying22 info5 rfl (by decide) (by omega) _ (List.replicate 8 0) (be4 n) A3 4 c3 (fun _ => True) (fun _ => False) (by rfl) (by rfl) HLIT.out (R_at HO3.out).1 (fun _ _ h => h) (fun _ h => h.elim) (fun _ _ => trivial) HB3.out ?aS ?aL ?_; (case aS => exact HB3.out.size); (case aL => simp); intro v4 w4 ho hb _ _; have HO4 := Aside0.mk ho; have HB4 := Aside0.mk hb; clear ho hb)
    | (refine Kd.R_append_rows_step (Kd.int .u8) (w0 := W) W.heap.size (by rfl) (.tmp 3) (.tmp 8) 22 5 (.int .u8 0) 1 rfl Try.underlying22 info5 rfl (by decide) (by omega) _ (List.replicate 8 0) (be4 n) A3 4 c3 (fun _ => True) (fun _ => False) (by rfl) (by rfl) (lit_R w3 W.heap.size (List.replicate 8 0) HB3.out.size (by simp)) (Kd.C_alloc (R_at HO3.out).1 _) (fun _ _ h => h) (fun _ h => h.elim) (fun _ _ => trivial) (below_alloc HB3.out _) ?aS ?aL ?_; (case aS => have := HB3.out.size; simp; omega); (case aL => simp); intro v4 w4 ho hb _ _; have HO4 := Aside0.mk ho; have HB4 := Aside0.mk hb; clear ho hb))
  all_goals go_wp2
  all_goals go_ret
  all_goals (
    have ho := HO4.out
    obtain ⟨A4, c4, e4⟩ := Kd.R_slice ho
    rw [show (List.replicate 8 (0 : Int) ++ be4 n).length = 12 from rfl] at e4
    subst e4
    exact ⟨A4, c4, rfl, ho, HB4.out⟩)
set_option maxHeartbeats 8000000 in
set_option maxRecDepth 100000 in
theorem rsealed.calls (g : Nat) (A : Option Addr) (c : Nat) (key : List Int) (n : Int) (A2 : Option Addr) (c2 m2 : Nat) (l2 : List Int) (W : World) (h : Sess 73 W g A c key n) (hb2 : ByteL l2) (hl2 : l2.length = m2) (hr2 : Kd.C (Kd.int .u8) W A2 m2 l2) (hc2 : m2 ≤ c2) :
    Calls Try.prog 47 #[.pointer (some ⟨g, 0, none⟩), .slice A2 m2 c2] W fun e w' => ∃ (A1 : Option Addr) (c1 : Nat), e = .returned (.slice A1 8 c1) ∧ Kd.R (Kd.int .u8) 5 w' W.heap.size (fun _ => True) (.slice A1 8 c1) (sealOf key n l2) ∧ Below W.heap.size W w' := by
  have HS := Aside0.mk h
  have k0 := h.c0
  have HY2 := Aside0.mk hb2
  have HL2 := Aside0.mk hl2
  have HR2 := Aside0.mk hr2
  have HC2 := Aside0.mk hc2
  have HT := Aside0.mk (rtag_is (l0 := streamOf key 0 (nonceOf n) 16) (l1 := l2) (by have h := streamOf_length key 0 (nonceOf n) (n := 16) (by decide); omega) (streamOf_byte _ _ _ _) hb2)
  have HLS : Aside0 ((streamOf key 0 (nonceOf n) 16).length = 16) := ⟨by have h := streamOf_length key 0 (nonceOf n) (n := 16) (by decide); omega⟩
  have H01 : Aside0 ((0 : Int) ≤ 0 ∧ (0 : Int) ≤ 1) := ⟨by decide⟩
  have H16 : Aside0 ((16 : Int) = ((16 : Nat) : Int) ∧ 16 ≤ 4000) := ⟨by decide⟩
  clear h hb2 hl2 hr2 hc2
  go_enter Try.func47, Try.ntmps47
  go_wp2
  go_region_held3 (fun w' => w'.cell? ⟨g, 0, none⟩ = some (.slice A 32 c)) (first | exact (HS.out.below HB3.out).c0 | exact (HS.out.below HB2.out).c0 | exact (HS.out.below HB1.out).c0 | exact HS.out.c0) (first
    | (go_at_call 62; (with_reducible refine (rnonce.calls g A c key n _ (HS.out.below (below_drew1 (Below.refl _ _)))).mono ?_); rintro e w1 ⟨A1, c1, rfl, ho, hb⟩; have HO1 := Aside0.mk ho; have HB1 := Aside0.mk (bel_d hb); clear ho hb)
    | (go_at_call 36; (with_reducible refine (rstream.calls A c key 0 A1 c1 (nonceOf n) 16 16 _ HS.out.kb HS.out.len (nonceOf_byte n) (nonceOf_length n) H01.out H16.out (Kd.C_below HS.out.kc HB1.out) HS.out.cap (R_at HO1.out).1 (R_at HO1.out).2).mono ?_); rintro e w2 ⟨A9, c9, rfl, ho, hb⟩; have HO2 := Aside0.mk ho; have HB2 := Aside0.mk (HB1.out.trans (hb.mono HB1.out.size)); clear ho hb)
    | (go_at_call 38; (with_reducible refine (ref_tag.callsm A9 _ 16 (streamOf key 0 (nonceOf n) 16) _ _ m2 l2 _ _ HLS.out HL2.out (R_at HO2.out).1 (R_at HO2.out).2 (Kd.C_below HR2.out HB2.out) HC2.out HT.out).mono ?_); rintro e w3 ⟨v3, rfl, ho, hb⟩; have HO3 := Aside0.mk ho; have HB3 := Aside0.mk (HB2.out.trans (hb.mono HB2.out.size)); clear ho hb))
  all_goals go_wp2
  go_ret
  obtain ⟨A3, c3, e3⟩ := Kd.R_slice HO3.out
  rw [tagOf_length] at e3
  subst e3
  exact ⟨A3, c3, rfl, Kd.R_lower HO3.out HB2.out.size, HB3.out⟩
end Go.Proofs.Ytpkmfaloncclaaa.T
