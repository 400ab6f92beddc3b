/- The reference's Resume walked. Conditions: as each theorem says. -/
import Derived.Test.YtpkmfaloncclaaaS10
namespace Go.Proofs.Ytpkmfaloncclaaa.T
open Go Go.RowKit Go.Shelf Go.Proofs.Ytpkmfaloncclaaa.K Go.Proofs.Ytpkmfaloncclaaa.Pure Go.Proofs.YtpkmfaloncclaaaW.PrintWords Go.Proofs.YtpkmfaloncclaaaW.PrintLast Go.Proofs.YtpkmfaloncclaaaW.PrintMore Hand
attribute [local go_sem] Oper.semAt_some max2_int min2_int max_two min_two max_three min_three max_four min_four
set_option linter.unusedVariables false
theorem Sess.allocN {T : TypeId} {base c : Nat} {w : World} {ok : Nat → Prop} {A : Option Addr} {key : List Int} {n : Int} (h : Kd.R (Kd.int .u8) 5 w base ok (.slice A 32 c) key) (hl : key.length = 32) (hk : ByteL key) (hn : 0 ≤ n ∧ n ≤ 4294967296) : Sess T (w.alloc (.cells #[.slice A 32 c, .int .i64 n] T)) w.heap.size A c key n :=
  ⟨heap_alloc_new w _, (R_keyAt h hl).below (below_alloc (Below.refl _ _) _), (R_at h).2, hn, hk, hl⟩
theorem beV_next (t : List Int) (i : Nat) (h : i < t.length) : beV (t.take (i + 1)) = 256 * beV (t.take i) + t.getD i 0 := by
  rw [List.take_succ_eq_append_getElem h, beV_snoc, List.getD_eq_getElem?_getD, List.getElem?_eq_getElem h]; rfl
set_option maxHeartbeats 8000000 in
set_option maxRecDepth 100000 in
theorem rResume.calls (A0 : Option Addr) (c0 m0 : Nat) (key : List Int) (A1 : Option Addr) (c1 m1 : Nat) (t : List Int) (w : World) (hl : key.length = m0) (hm : m0 ≤ 140737488351232) (hk : ByteL key) (hr : Kd.C (Kd.int .u8) w A0 m0 key) (hc0 : m0 ≤ c0) (hl1 : t.length = m1) (hm1 : m1 ≤ 140737488351232) (hk1 : ByteL t) (hr1 : Kd.C (Kd.int .u8) w A1 m1 t) (hc1 : m1 ≤ c1) :
    Calls Try.prog 32 #[.slice A0 m0 c0, .slice A1 m1 c1] w (OpenPost 73 w key (resumeA key t)) := by
  have HL := Aside0.mk hl
  have HK := Aside0.mk hk
  have HR := Aside0.mk hr
  have HM := Aside0.mk hm
  have HC0 := Aside0.mk hc0
  unfold resumeA
  by_cases h : key.length ≠ 32
  · rw [if_pos h]
    have b1 : ((m0 : Int) == 32) = false := beq_eq_false_iff_ne.2 (by omega)
    have b2 : ((m0 : Int) != 32) = true := bne_iff_ne.2 (by omega)
    clear hl hk hr hl1 hk1 hr1 hm hm1 hc1 hc0 h
    go_enter Try.func32, Try.ntmps32
    go_wp2
    go_ret2
    exact ⟨rfl, Below.refl _ _⟩
  rw [if_neg h, hl1]
  have e32 : m0 = 32 := by omega
  subst e32
  by_cases h2 : m1 ≠ 20
  · rw [if_pos h2]
    have b1 : ((m1 : Int) == 20) = false := beq_eq_false_iff_ne.2 (by omega)
    have b2 : ((m1 : Int) != 20) = true := bne_iff_ne.2 (by omega)
    clear hl hk hr hl1 hk1 hr1 hm hm1 hc1 hc0 h
    go_enter Try.func32, Try.ntmps32
    go_wp2
    go_ret2
    exact ⟨rfl, Below.refl _ _⟩
  have e20 : m1 = 20 := by omega
  subst e20
  rw [if_neg h2]
  obtain ⟨ad, e, hx⟩ := (Kd.reads_of_C (enc := Value.int .u8) (d := (0 : Int)) (h1 := fun _ => rfl) hr1).2.2 (by decide)
  subst e
  have HX := Aside0.mk hx
  have HY1 := Aside0.mk hk1
  have HL1 := Aside0.mk hl1
  have HR1 := Aside0.mk hr1
  have hN := beV_bd t hk1 4 (by decide) (by omega)
  obtain ⟨N, hNe⟩ : ∃ N, beV (t.take 4) = N := ⟨_, rfl⟩
  rw [hNe] at hN
  rw [hNe]
  have HNe := Aside0.mk hNe
  have HN : Aside0 (0 ≤ N ∧ N < 4294967296) := ⟨⟨hN.1, hN.2.1⟩⟩
  clear hl hk hr hl1 hk1 hr1 hm hm1 hc1 hc0 h h2 hN hNe hx
  obtain ⟨E, hE⟩ : ∃ E, eqB (tickOf key N) t = E := ⟨_, rfl⟩
  rw [hE]
  have HZ : Aside0 (∃ Z1 Z2 : ByteArray, (Z1.toList == Z2.toList) = E ∧ (∀ (w : World) (A : Option Addr) (c m : Nat), Kd.C (Kd.int .u8) w A m (tickOf key N) → (convert 22 9 (.slice A m c)).run Try.prog w = .ok (.string Z1) w) ∧ (∀ (w : World), Kd.C (Kd.int .u8) w (some ad) 20 t → (convert 22 9 (.slice (some ad) 20 c1)).run Try.prog w = .ok (.string Z2) w)) :=
    ⟨⟨_, _, hE, fun w A c m h => Kd.C_string (P := Try.prog) Try.underlying22 Try.underlying5 Try.underlying9 h, fun w h => Kd.C_string (P := Try.prog) Try.underlying22 Try.underlying5 Try.underlying9 h⟩⟩
  clear hE
  cases E with
  | false =>
    rw [if_neg (by decide)]
    go_enter Try.func32, Try.ntmps32
    go_wp2
    go_loopg [6, 7] 4 (fun kq v6 v7 W' => ∃ i : Nat, v7 = .int .i64 i ∧ i + kq = 4 ∧ Aside0 (v6 = .int .i64 (beV (t.take i))) ∧ W' = w)
    case atStart => exact ⟨0, rfl, by omega, ⟨rfl⟩, rfl⟩
    case round =>
      obtain ⟨i, rfl, hk, H6, rfl⟩ := hrel
      have e6 := H6.out
      subst e6
      by_cases h4 : i < 4
      · obtain ⟨q, rfl⟩ : ∃ q, gk = q + 1 := ⟨gk - 1, by omega⟩
        have y0 := HX.out i (by omega)
        have rx := byte_at HY1.out (i := i) (by rw [HL1.out]; omega)
        have hb := beV_bd t HY1.out i (by omega) (by rw [HL1.out]; omega)
        have hn := beV_next t i (by rw [HL1.out]; omega)
        obtain ⟨x, hx⟩ : ∃ x, t.getD i 0 = x := ⟨_, rfl⟩
        obtain ⟨B, hB⟩ : ∃ B, beV (t.take i) = B := ⟨_, rfl⟩
        rw [hx] at y0 rx hn
        rw [hB] at hn hb
        rw [hB]
        have HN2 := Aside0.mk hn
        have b0 := hb.1
        have b1 := hb.2.2.1 (by omega)
        have x0 := rx.1
        have x1 := rx.2
        have i0 : (0 : Int) ≤ (i : Int) := by omega
        have i1 : (i : Int) < 4 := by omega
        have i2 : (i : Int) < ((20 : Nat) : Int) := by omega
        have i3 : i < 20 := by omega
        clear hn hb rx hx hB H6
        go_wp2
        go_roundg q
        case measure => omega
        case rel => exact ⟨i + 1, by simp, by omega, ⟨by rw [HN2.out]⟩, rfl⟩
      · have ei : i = 4 := by omega
        subst ei
        have e7 := HNe.out
        rw [e7]
        obtain ⟨Z1, Z2, v1, hz1, hz2⟩ := HZ.out
        have HZ1 := Aside0.mk hz1
        have HZ2 := Aside0.mk hz2
        have v2 : (Z1.toList != Z2.toList) = true := by simp only [bne, v1]; rfl
        have v3 : (Z1.toList = Z2.toList) = False := eq_false (beq_eq_false_iff_ne.1 v1)
        clear hz1 hz2 e7 H6 hk h4
        go_wp2
        go_region_held (fun w' => (convert 22 9 (.slice (some ad) 20 c1)).run Try.prog w' = .ok (.string Z2) w') (first | exact HZ2.out _ (Kd.C_below HR1.out HB3.out) | exact HZ2.out _ HR1.out | exact HZ2.out _ (Kd.C_drew HR1.out)) (first
          | (go_at_call 51; (with_reducible refine (rticket.calls A0 c0 key N _ HL.out HK.out (Kd.C_drew HR.out) HC0.out).mono ?_); rintro e w3 ⟨A3, c3, rfl, ho, hb⟩; have hs3 := HZ1.out _ A3 c3 _ (R_at ho).1; have HB3 := Aside0.mk (bel_d hb); clear ho hb))
        clear hs3
        go_wp2
        go_ret2
        exact ⟨rfl, HB3.out⟩
  | true =>
    rw [if_pos rfl]
    go_enter Try.func32, Try.ntmps32
    go_wp2
    go_loopg [6, 7] 4 (fun kq v6 v7 W' => ∃ i : Nat, v7 = .int .i64 i ∧ i + kq = 4 ∧ Aside0 (v6 = .int .i64 (beV (t.take i))) ∧ W' = w)
    case atStart => exact ⟨0, rfl, by omega, ⟨rfl⟩, rfl⟩
    case round =>
      obtain ⟨i, rfl, hk, H6, rfl⟩ := hrel
      have e6 := H6.out
      subst e6
      by_cases h4 : i < 4
      · obtain ⟨q, rfl⟩ : ∃ q, gk = q + 1 := ⟨gk - 1, by omega⟩
        have y0 := HX.out i (by omega)
        have rx := byte_at HY1.out (i := i) (by rw [HL1.out]; omega)
        have hb := beV_bd t HY1.out i (by omega) (by rw [HL1.out]; omega)
        have hn := beV_next t i (by rw [HL1.out]; omega)
        obtain ⟨x, hx⟩ : ∃ x, t.getD i 0 = x := ⟨_, rfl⟩
        obtain ⟨B, hB⟩ : ∃ B, beV (t.take i) = B := ⟨_, rfl⟩
        rw [hx] at y0 rx hn
        rw [hB] at hn hb
        rw [hB]
        have HN2 := Aside0.mk hn
        have b0 := hb.1
        have b1 := hb.2.2.1 (by omega)
        have x0 := rx.1
        have x1 := rx.2
        have i0 : (0 : Int) ≤ (i : Int) := by omega
        have i1 : (i : Int) < 4 := by omega
        have i2 : (i : Int) < ((20 : Nat) : Int) := by omega
        have i3 : i < 20 := by omega
        clear hn hb rx hx hB H6
        go_wp2
        go_roundg q
        case measure => omega
        case rel => exact ⟨i + 1, by simp, by omega, ⟨by rw [HN2.out]⟩, rfl⟩
      · have ei : i = 4 := by omega
        subst ei
        have e7 := HNe.out
        rw [e7]
        obtain ⟨Z1, Z2, v1, hz1, hz2⟩ := HZ.out
        have HZ1 := Aside0.mk hz1
        have HZ2 := Aside0.mk hz2
        have v2 : (Z1.toList != Z2.toList) = false := by simp only [bne, v1]; rfl
        have v3 : (Z1.toList = Z2.toList) = True := eq_true (beq_iff_eq.1 v1)
        clear hz1 hz2 e7 H6 hk h4
        go_wp2
        go_region_held (fun w' => (convert 22 9 (.slice (some ad) 20 c1)).run Try.prog w' = .ok (.string Z2) w') (first | exact HZ2.out _ (Kd.C_below HR1.out HB3.out) | exact HZ2.out _ HR1.out | exact HZ2.out _ (Kd.C_drew HR1.out)) (first
          | (go_at_call 51; (with_reducible refine (rticket.calls A0 c0 key N _ HL.out HK.out (Kd.C_drew HR.out) HC0.out).mono ?_); rintro e w3 ⟨A3, c3, rfl, ho, hb⟩; have hs3 := HZ1.out _ A3 c3 _ (R_at ho).1; have HB3 := Aside0.mk (bel_d hb); clear ho hb))
        clear hs3
        go_wp2_with ((with_reducible refine gate_builtin (b := .append) (xs := #[.const (.slice none 0 0), .tmp 33]) rfl ?_); at_builtin; refine Kd.R_append_rows (Kd.int .u8) (w0 := wr) wr.heap.size rfl (.const (.slice none 0 0)) (.tmp 33) 22 5 (.int .u8 0) 1 rfl Try.underlying22 info5 rfl (by decide) (by omega) _ [] key A0 32 c0 (fun _ => True) (fun _ => False) rfl rfl (Kd.R_nil _ _ _ _ _) (Kd.C_below HR.out HB3.out) (fun _ _ h => h) (fun _ h => h.elim) (fun _ _ => trivial) HB3.out ?aS ?aL ?_; (case aS => exact HB3.out.size); (case aL => simp); intro v1 w4 ho hb _ _; rw [List.nil_append] at ho; obtain ⟨A4, c4, e1⟩ := Kd.R_slice ho; rw [HL.out] at e1; subst e1; have HO4 := Aside0.mk ho; have HB4 := Aside0.mk hb; clear ho hb)
        go_ret2
        exact ⟨w4.heap.size, A4, c4, rfl, Sess.allocN HO4.out HL.out HK.out ⟨HN.out.1, by have := HN.out.2; omega⟩, HB4.out.size, below_alloc HB4.out _⟩
end Go.Proofs.Ytpkmfaloncclaaa.T
