/- The law KeyRecords walked: both sides' sessions answer alike. Conditions: as each theorem says. -/
import Derived.Test.YtpkmfaloncclaaaS12
namespace Go.Proofs.Ytpkmfaloncclaaa.T
open Go Go.RowKit Go.Shelf Go.Proofs.Ytpkmfaloncclaaa.K Go.Proofs.Ytpkmfaloncclaaa.Pure Go.Proofs.YtpkmfaloncclaaaW.PrintWords Go.Proofs.YtpkmfaloncclaaaW.PrintLast Go.Proofs.YtpkmfaloncclaaaW.PrintMore Hand
attribute [local go_sem] Oper.semAt_some max2_int min2_int max_two min_two max_three min_three max_four min_four
set_option linter.unusedVariables false
/-- One act of the row, as it lies: its six cells, and the bytes that the last one leads to. -/
structure ActV where
  op : Int
  a : Int
  b : Int
  c : Int
  s : ByteArray
  A : Option Addr
  m : Nat
  cp : Nat
  l : List Int
def ActAt (w : World) (x : Addr) (v : ActV) : Prop :=
  (w.cell? x = some (.int .i64 v.op) ∧ w.cell? ⟨x.block, x.off + 1, none⟩ = some (.int .i64 v.a) ∧ w.cell? ⟨x.block, x.off + 2, none⟩ = some (.int .i64 v.b) ∧ w.cell? ⟨x.block, x.off + 3, none⟩ = some (.int .i64 v.c) ∧ w.cell? ⟨x.block, x.off + 4, none⟩ = some (.string v.s) ∧ w.cell? ⟨x.block, x.off + 5, none⟩ = some (.slice v.A v.m v.cp)) ∧
  Kd.C (Kd.int .u8) w v.A v.m v.l ∧ v.l.length = v.m ∧ ByteL v.l ∧ v.m ≤ v.cp ∧ v.m ≤ 140737488351232 ∧ (-9223372036854775808 ≤ v.op ∧ v.op < 9223372036854775808) ∧ (-9223372036854775808 ≤ v.a ∧ v.a < 9223372036854775808)
def ActsAt (w : World) (A : Option Addr) (L : List ActV) : Prop := ∀ i (h : i < L.length), ∃ ad, A = some ad ∧ ActAt w (ad.add (i * 6)) L[i]
theorem wrap64_bd (n : Int) : -9223372036854775808 ≤ wrap64 n ∧ wrap64 n < 9223372036854775808 := by
  unfold wrap64
  omega
theorem resumeA_two (key t : List Int) : (∃ N, resumeA key t = (some N, 0)) ∨ (∃ er : Int, er ≠ 0 ∧ resumeA key t = (none, er)) := by
  unfold resumeA
  split
  · exact .inr ⟨1, by decide, rfl⟩
  split
  · exact .inr ⟨11, by decide, rfl⟩
  split
  · exact .inl ⟨_, rfl⟩
  · exact .inr ⟨8, by decide, rfl⟩
theorem ActAt.below {w w' : World} {x : Addr} {v : ActV} (h : ActAt w x v) (hb : Below w.heap.size w w') : ActAt w' x v :=
  ⟨⟨pw_cell_below hb h.1.1, pw_cell_below hb h.1.2.1, pw_cell_below hb h.1.2.2.1, pw_cell_below hb h.1.2.2.2.1, pw_cell_below hb h.1.2.2.2.2.1, pw_cell_below hb h.1.2.2.2.2.2⟩, Kd.C_below h.2.1 hb, h.2.2⟩
set_option maxHeartbeats 8000000 in
set_option maxRecDepth 100000 in
theorem KeyRecords.walk0 (A0 : Option Addr) (c0 m0 : Nat) (key : List Int) (A1 : Option Addr) (c1 : Nat) (L : List ActV) (w : World) (hl : key.length = m0) (hm : m0 ≤ 140737488351232) (hk : ByteL key) (hr : Kd.C (Kd.int .u8) w A0 m0 key) (hc0 : m0 ≤ c0) (hL : ActsAt w A1 L) (hm1 : L.length ≤ 140737488351232) (hc1 : L.length ≤ c1) :
    Calls Try.prog 8 #[.slice A0 m0 c0, .slice A1 L.length c1] w fun e w' => e = .returned (.bool true) ∧ Below w.heap.size w w' := by
  have HLK := Aside0.mk hl
  have HK := Aside0.mk hk
  have HR := Aside0.mk hr
  have HM := Aside0.mk hm
  have HC0 := Aside0.mk hc0
  have HA := Aside0.mk hL
  have HM1 := Aside0.mk hm1
  have HC1 := Aside0.mk hc1
  obtain ⟨N, hN⟩ : ∃ N, L.length = N := ⟨_, rfl⟩
  have HN := Aside0.mk hN
  rw [hN] at hm1 ⊢
  have hmx := hm1
  clear hl hk hr hc0 hL hc1 hN hm1
  go_enter Try.func8, Try.ntmps8
  go_wp2
  go_loopg [5, 6] N (fun kq v5 v6 W' => ∃ (i : Nat) (n : Int), v6 = .int .i64 i ∧ v5 = .int .i64 n ∧ i + kq = N ∧ (-9223372036854775808 ≤ n ∧ n < 9223372036854775808) ∧ w = W' ∧ Aside0 (N ≤ 60 → 0 ≤ n ∧ n ≤ 140737488355328 * (i + 1) ∧ ∀ j (h : j < L.length), j < i → (L[j].m : Int) ≤ n))
  case atStart => exact ⟨0, m0, rfl, rfl, by omega, by omega, rfl, ⟨fun _ => ⟨by omega, by omega, fun j _ h => by omega⟩⟩⟩
  case round =>
    obtain ⟨i, n, rfl, rfl, hk, hn, rfl, HI⟩ := hrel
    have i0 : (0 : Int) ≤ (i : Int) := by omega
    by_cases hi : i < N
    · obtain ⟨q, rfl⟩ : ∃ q, gk = q + 1 := ⟨gk - 1, by omega⟩
      obtain ⟨ad, eA, ha⟩ := HA.out i (by rw [HN.out]; exact hi)
      subst eA
      have y5 := ha.1.2.2.2.2.2
      have i1 : (i : Int) < (N : Int) := by omega
      have bm := ha.2.2.2.2.2.1
      go_wp2
      go_roundg q
      case measure => omega
      case rel =>
        refine ⟨i + 1, _, by simp, rfl, by omega, wrap64_bd _, rfl, ⟨fun h60 => ?_⟩⟩
        have hI := HI.out h60
        have hiL : i < L.length := by have := HN.out; omega
        have ew : wrap64 (n + (L[i].m : Int)) = n + (L[i].m : Int) := w64 (by omega) (by omega)
        rw [ew]
        refine ⟨by omega, by omega, fun j hj h => ?_⟩
        by_cases e : j = i
        · subst e
          omega
        · have h2 := hI.2.2 j hj (by omega)
          omega
    · have ei : i = N := by omega
      subst ei
      have e0 : gk = 0 := by omega
      by_cases q1 : 40000 < n
      · have b1 : decide (40000 < n) = true := decide_eq_true q1
        clear HI hn
        go_wp2_with (go_at_call 9; (with_reducible refine (wireglasslaw21_known.calls true _ rfl).mono ?_); rintro e wk ⟨rfl, hb⟩; have HBK := Aside0.mk hb; clear hb)
        go_ret
        exact ⟨rfl, HBK.out⟩
      have b1 : decide (40000 < n) = false := decide_eq_false q1
      by_cases q2 : 60 < (i : Int)
      · have b2 : decide (60 < (i : Int)) = true := decide_eq_true q2
        have b3 : decide (60 < i) = true := decide_eq_true (by omega)
        clear HI hn
        go_wp2_with (go_at_call 9; (with_reducible refine (wireglasslaw21_known.calls true _ rfl).mono ?_); rintro e wk ⟨rfl, hb⟩; have HBK := Aside0.mk hb; clear hb)
        go_ret
        exact ⟨rfl, HBK.out⟩
      have b2 : decide (60 < (i : Int)) = false := decide_eq_false q2
      have b3 : decide (60 < i) = false := decide_eq_false (by omega)
      have hI := HI.out (by omega)
      have HSM : Aside0 (∀ j (h : j < L.length), L[j].m ≤ 40000) := ⟨fun j h => by have := hI.2.2 j h (by have := HN.out; omega); omega⟩
      clear HI hI hn
      by_cases h32 : m0 = 32
      · have e : openA key = (some 0, 0) := by unfold openA; rw [if_neg (by have := HLK.out; omega)]
        have HOA := Aside0.mk e
        clear e
        subst h32
        go_wp2_with (first
          | (go_at_call 18; (with_reducible refine (kOpen.calls A0 c0 32 key _ HLK.out HM.out HK.out HR.out).mono ?_); rw [HOA.out]; rintro e w1 ⟨g, A2, c2, rfl, hs, hg, hb⟩; have HS1 := Aside0.mk hs; have HG := Aside0.mk hg; have HB1 := Aside0.mk hb; clear hs hg hb)
          | (go_at_call 19; (with_reducible refine (rOpen.calls A0 c0 32 key _ HLK.out HM.out HK.out (Kd.C_below HR.out HB1.out)).mono ?_); rw [HOA.out]; rintro e w2 ⟨g2, B2, d2, rfl, hs, hg, hb⟩; have HT2 := Aside0.mk hs; have HG2 : Aside0 (w1.heap.size ≤ g2) := ⟨hg⟩; have HS2 : Aside0 (Sess 71 w2 g A2 c2 key 0) := ⟨HS1.out.below hb⟩; have HB2 := Aside0.mk (HB1.out.trans (hb.mono HB1.out.size)); clear hs hg hb))
        have HGG : Aside0 (w.heap.size ≤ g ∧ w.heap.size ≤ g2 ∧ g ≠ g2) := ⟨HG.out, by have := HB1.out.size; have := HG2.out; omega, by have := HS1.out.lt; have := HG2.out; omega⟩
        clear b1 b2 b3 e0
        go_loopg [7, 9, 11] i (fun kq v7 v9 v11 W' => ∃ (j g g2 : Nat) (A : Option Addr) (c : Nat) (B : Option Addr) (d : Nat) (k : Int), v11 = .int .i64 j ∧ v7 = .pointer (some ⟨g, 0, none⟩) ∧ v9 = .pointer (some ⟨g2, 0, none⟩) ∧ j + kq = i ∧ Aside0 (Sess 71 W' g A c key k) ∧ Aside0 (Sess 73 W' g2 B d key k) ∧ Aside0 (Below w.heap.size w W') ∧ Aside0 (w.heap.size ≤ g ∧ w.heap.size ≤ g2 ∧ g ≠ g2))
        case atStart => exact ⟨0, g, g2, A2, c2, B2, d2, 0, rfl, rfl, rfl, by omega, HS2, HT2, HB2, HGG⟩
        case round =>
          clear HS1 HG HB1 HT2 HG2 HS2 HB2 HGG HOA
          obtain ⟨j, g, g2, A, c, B, d, k, rfl, rfl, rfl, hj, HS, HT, HB, HG⟩ := hrel
          have j0 : (0 : Int) ≤ (j : Int) := by omega
          by_cases hji : j < i
          · obtain ⟨q, rfl⟩ : ∃ q, gk = q + 1 := ⟨gk - 1, by omega⟩
            obtain ⟨ad, eA, ha⟩ := HA.out j (by rw [HN.out]; exact hji)
            subst eA
            have hsm := HSM.out j (by rw [HN.out]; exact hji)
            obtain ⟨V, hV⟩ : ∃ V, L[j]'(by rw [HN.out]; exact hji) = V := ⟨_, rfl⟩
            rw [hV] at ha hsm
            have ha := ha.below HB.out
            have y0 := ha.1.1
            have y1 := ha.1.2.1
            have y2 := ha.1.2.2.1
            have y3 := ha.1.2.2.2.1
            have y4 := ha.1.2.2.2.2.1
            have y5 := ha.1.2.2.2.2.2
            have j1 : (j : Int) < (i : Int) := by omega
            clear hV
            go_upto_region 18 with (fail)
            obtain ⟨W1, hW1⟩ : ∃ W1, wr.alloc (.cells #[.int .i64 V.op, .int .i64 V.a, .int .i64 V.b, .int .i64 V.c, .string V.s, .slice V.A V.m V.cp] 55) = W1 := ⟨_, rfl⟩
            have hbk : W1.heap[wr.heap.size]? = some (.cells #[.int .i64 V.op, .int .i64 V.a, .int .i64 V.b, .int .i64 V.c, .string V.s, .slice V.A V.m V.cp] 55 (0, 0)) := by rw [← hW1]; exact heap_alloc_new _ _
            have hB1 : Below wr.heap.size wr W1 := by rw [← hW1]; exact below_alloc (Below.refl _ _) _
            rw [hW1]
            have HBK := Aside0.mk hbk
            have HS1 := Aside0.mk (HS.out.below hB1)
            have HT1 := Aside0.mk (HT.out.below hB1)
            have HBW := Aside0.mk (HB.out.trans (hB1.mono HB.out.size))
            have HV := Aside0.mk (ha.below hB1).2
            have HVM := Aside0.mk hsm
            have HG2 : Aside0 (wr.heap.size ≠ g ∧ wr.heap.size ≠ g2) := ⟨⟨Nat.ne_of_gt HS.out.lt, Nat.ne_of_gt HT.out.lt⟩⟩
            have z0 : W1.cell? ⟨wr.heap.size, 0, none⟩ = some (.int .i64 V.op) := blk_cell hbk 0
            have z1 : W1.cell? ⟨wr.heap.size, 1, none⟩ = some (.int .i64 V.a) := blk_cell hbk 1
            have z5 : W1.cell? ⟨wr.heap.size, 5, none⟩ = some (.slice V.A V.m V.cp) := blk_cell hbk 5
            have o1 := ha.2.2.2.2.2.2.1.1
            have o2 := ha.2.2.2.2.2.2.1.2
            obtain ⟨h0, hh0⟩ : ∃ h0, wr.heap.size = h0 := ⟨_, rfl⟩
            rw [hh0] at HBK HG2 z0 z1 z5 ⊢
            clear y0 y1 y2 y3 y4 y5 hW1 hbk hB1 ha hsm hh0
            go_upto_region 23 with (fail)
            have t1 := Int.tmod_lt_of_pos V.op (show (0 : Int) < 4 by decide)
            have t2 := Int.lt_tmod_of_pos V.op (show (0 : Int) < 4 by decide)
            obtain ⟨x, hx⟩ : ∃ x, (wrap64 (V.op.tmod 4 + 4)).tmod 4 = x := ⟨_, rfl⟩
            rw [hx]
            have hx4 : x = 0 ∨ x = 1 ∨ x = 2 ∨ x = 3 := by
              rw [w64 (by omega) (by omega)] at hx
              have t3 := Int.tmod_lt_of_pos (V.op.tmod 4 + 4) (show (0 : Int) < 4 by decide)
              have t4 := Int.tmod_nonneg 4 (show (0 : Int) ≤ V.op.tmod 4 + 4 by omega)
              omega
            clear t1 t2 hx o1 o2
            rcases hx4 with rfl | rfl | rfl | rfl
            · obtain ⟨R, hR⟩ : ∃ R, closeA key k V.a V.l = R := ⟨_, rfl⟩
              have HRR := Aside0.mk hR
              clear hR
              go_wp2_with (first
                | (go_at_call 20; (with_reducible refine (kClose.calls g A c key k V.a V.A V.cp V.m V.l _ HS1.out HV.out.2.2.2.2.1 HV.out.2.1 HV.out.2.2.1 HV.out.1 HV.out.2.2.2.1).mono ?_); rw [HRR.out]; rintro e w2 ⟨v2, rfl, ho, hs, hmv⟩; obtain ⟨A3, c3, e3⟩ := Kd.R_slice ho; subst e3; have HO2 := Aside0.mk ho; have HS2 := Aside0.mk hs; have HM2 := Aside0.mk hmv; have HT2 : Aside0 (Sess 73 w2 g2 B d key k) := ⟨HT1.out.other HS1.out.1 (by decide) hmv (fun h => HG.out.2.2 h.symm)⟩; have hbk := hmv.2.blk HBK.out HG2.out.1 (by simp); have z1 : w2.cell? ⟨h0, 1, none⟩ = some (.int .i64 V.a) := blk_cell hbk 1; have z5 : w2.cell? ⟨h0, 5, none⟩ = some (.slice V.A V.m V.cp) := blk_cell hbk 5; clear ho hs hmv hbk)
                | (go_at_call 28; (with_reducible refine (rClose.calls g2 B d key k V.a V.A V.cp V.m V.l _ HT2.out HV.out.2.2.2.2.1 HV.out.2.1 HV.out.2.2.1 (C_moved HS1.out HM2.out HV.out.2.1 HV.out.1) HV.out.2.2.2.1).mono ?_); rw [HRR.out]; rintro e w3 ⟨v3, rfl, ho, hs, hmv⟩; obtain ⟨A4, c4, e4⟩ := Kd.R_slice ho; subst e4; have HT3 := Aside0.mk hs; have HM3 := Aside0.mk hmv; have HS3 : Aside0 (Sess 71 w3 g A c key R.2) := ⟨HS2.out.other HT2.out.1 (by decide) hmv HG.out.2.2⟩; have s4 := Kd.C_string (P := Try.prog) (c := c4) Try.underlying22 Try.underlying5 Try.underlying9 (R_at ho).1; have s3 := Kd.C_string (P := Try.prog) (c := c3) Try.underlying22 Try.underlying5 Try.underlying9 (C_moved HT2.out hmv rfl (R_at HO2.out).1); clear ho hs hmv)
                | (go_at_call 33; (with_reducible refine (kNumber.calls g A c key R.2 _ HS3.out).mono ?_); rintro e w4 ⟨rfl, rfl⟩)
                | (go_at_call 22; (with_reducible refine (rNumber.calls g2 B d key R.2 _ HT3.out).mono ?_); rintro e w4 ⟨rfl, rfl⟩))
              go_roundg q
              case measure => omega
              case rel => exact ⟨j + 1, g, g2, A, c, B, d, R.2, by simp, rfl, rfl, by omega, HS3, HT3, ⟨Moved.all (Moved.all HBW.out HM2.out HG.out.1) HM3.out HG.out.2.1⟩, HG⟩
            · obtain ⟨R, hR⟩ : ∃ R, readA key k V.l = R := ⟨_, rfl⟩
              have HRR := Aside0.mk hR
              clear hR
              go_wp2_with (first
                | (go_at_call 23; (with_reducible refine (kRead.calls g A c key k V.A V.cp V.m V.l _ HS1.out HV.out.2.2.2.2.1 HV.out.2.1 HV.out.2.2.1 HV.out.1 HV.out.2.2.2.1).mono ?_); rw [HRR.out]; rintro e w2 ⟨A3, c3, co3, rfl, hl, ho, hs, hmv⟩; have HO2 := Aside0.mk ho; have HS2 := Aside0.mk hs; have HM2 := Aside0.mk hmv; have HT2 : Aside0 (Sess 73 w2 g2 B d key k) := ⟨HT1.out.other HS1.out.1 (by decide) hmv (fun h => HG.out.2.2 h.symm)⟩; have hbk := hmv.2.blk HBK.out HG2.out.1 (by simp); have z5 : w2.cell? ⟨h0, 5, none⟩ = some (.slice V.A V.m V.cp) := blk_cell hbk 5; clear hl ho hs hmv hbk)
                | (go_at_call 24; (with_reducible refine (rRead.calls g2 B d key k V.A V.cp V.m V.l _ HT2.out HV.out.2.2.2.2.1 HV.out.2.1 HV.out.2.2.1 (C_moved HS1.out HM2.out HV.out.2.1 HV.out.1) HV.out.2.2.2.1).mono ?_); rw [HRR.out]; rintro e w3 ⟨A4, c4, co4, rfl, hl, ho, hs, hmv⟩; have HT3 := Aside0.mk hs; have HM3 := Aside0.mk hmv; have HS3 : Aside0 (Sess 71 w3 g A c key R.2) := ⟨HS2.out.other HT2.out.1 (by decide) hmv HG.out.2.2⟩; have s4 := Kd.C_string (P := Try.prog) (c := c4) Try.underlying22 Try.underlying5 Try.underlying9 ((R_at ho).1); have s3 := Kd.C_string (P := Try.prog) (c := c3) Try.underlying22 Try.underlying5 Try.underlying9 (C_moved HT2.out hmv rfl (R_at HO2.out).1); clear hl ho hs hmv)
                | (go_at_call 33; (with_reducible refine (kNumber.calls g A c key R.2 _ HS3.out).mono ?_); rintro e w4 ⟨rfl, rfl⟩)
                | (go_at_call 22; (with_reducible refine (rNumber.calls g2 B d key R.2 _ HT3.out).mono ?_); rintro e w4 ⟨rfl, rfl⟩))
              go_roundg q
              case measure => omega
              case rel => exact ⟨j + 1, g, g2, A, c, B, d, R.2, by simp, rfl, rfl, by omega, HS3, HT3, ⟨Moved.all (Moved.all HBW.out HM2.out HG.out.1) HM3.out HG.out.2.1⟩, HG⟩
            · by_cases hkk : 4294967296 ≤ k
              · obtain ⟨t, ht⟩ : ∃ t, tickA key k = (t, 12) := ⟨[], by unfold tickA; rw [if_pos hkk]⟩
                have HTK := Aside0.mk ht
                clear ht hkk
                go_wp2_with (first
                | (go_at_call 29; (with_reducible refine (kTicket.calls g A c key k _ HS1.out).mono ?_); rw [HTK.out]; rintro e w2 ⟨v2, rfl, ho, hb⟩; obtain ⟨A3, c3, e3⟩ := Kd.R_slice ho; subst e3; have HO2 := Aside0.mk ho; have HS2 := Aside0.mk (HS1.out.below hb); have HT2 := Aside0.mk (HT1.out.below hb); have HB2 := Aside0.mk (HBW.out.trans (hb.mono HBW.out.size)); clear ho hb)
                | (go_at_call 30; (with_reducible refine (rTicket.calls g2 B d key k _ HT2.out).mono ?_); rw [HTK.out]; rintro e w3 ⟨v3, rfl, ho, hb⟩; obtain ⟨A4, c4, e4⟩ := Kd.R_slice ho; subst e4; have HO3 := Aside0.mk ho; have HS3 := Aside0.mk (HS2.out.below hb); have HT3 := Aside0.mk (HT2.out.below hb); have HB3 := Aside0.mk (HB2.out.trans (hb.mono HB2.out.size)); have HC3 := Aside0.mk (Kd.C_below (R_at HO2.out).1 hb); have s4 := Kd.C_string (P := Try.prog) (c := c4) Try.underlying22 Try.underlying5 Try.underlying9 ((R_at ho).1); have s3 := Kd.C_string (P := Try.prog) (c := c3) Try.underlying22 Try.underlying5 Try.underlying9 (HC3.out); clear ho hb)
                | (go_at_call 9; (with_reducible refine (wireglasslaw21_known.calls true _ rfl).mono ?_); rintro e wk ⟨rfl, hb⟩; have HBK9 := Aside0.mk hb; clear hb))
                go_ret
                exact ⟨rfl, HB3.out.trans (HBK9.out.mono HB3.out.size)⟩
              · obtain ⟨t, ht, hlt, hyt⟩ : ∃ t, tickA key k = (t, 0) ∧ t.length = 20 ∧ ByteL t := ⟨tickOf key k, by unfold tickA; rw [if_neg hkk], tickOf_length _ _, tickOf_byte _ _⟩
                have HTK := Aside0.mk ht
                have HLT := Aside0.mk hlt
                have HYT := Aside0.mk hyt
                have HM20 : Aside0 (20 ≤ 140737488351232) := ⟨by decide⟩
                clear ht hkk hlt hyt
                rcases resumeA_two key t with ⟨N, hrs⟩ | ⟨er, her, hrs⟩
                · have HRS := Aside0.mk hrs
                  clear hrs
                  go_wp2_with (first
                | (go_at_call 29; (with_reducible refine (kTicket.calls g A c key k _ HS1.out).mono ?_); rw [HTK.out]; rintro e w2 ⟨v2, rfl, ho, hb⟩; obtain ⟨A3, c3, e3⟩ := Kd.R_slice ho; rw [HLT.out] at e3; subst e3; have HO2 := Aside0.mk ho; have HS2 := Aside0.mk (HS1.out.below hb); have HT2 := Aside0.mk (HT1.out.below hb); have HB2 := Aside0.mk (HBW.out.trans (hb.mono HBW.out.size)); clear ho hb)
                | (go_at_call 30; (with_reducible refine (rTicket.calls g2 B d key k _ HT2.out).mono ?_); rw [HTK.out]; rintro e w3 ⟨v3, rfl, ho, hb⟩; obtain ⟨A4, c4, e4⟩ := Kd.R_slice ho; rw [HLT.out] at e4; subst e4; have HO3 := Aside0.mk ho; have HS3 := Aside0.mk (HS2.out.below hb); have HT3 := Aside0.mk (HT2.out.below hb); have HB3 := Aside0.mk (HB2.out.trans (hb.mono HB2.out.size)); have HC3 := Aside0.mk (Kd.C_below (R_at HO2.out).1 hb); have s4 := Kd.C_string (P := Try.prog) (c := c4) Try.underlying22 Try.underlying5 Try.underlying9 ((R_at ho).1); have s3 := Kd.C_string (P := Try.prog) (c := c3) Try.underlying22 Try.underlying5 Try.underlying9 (HC3.out); clear ho hb)
                | (go_at_call 31; (with_reducible refine (kResume.calls A0 c0 32 key A3 c3 20 t _ HLK.out HM.out HK.out (Kd.C_below HR.out HB3.out) HLT.out HM20.out HYT.out HC3.out (R_at HO2.out).2).mono ?_); rw [HRS.out]; rintro e w4 ⟨g3, A5, c5, rfl, hs, hg, hb⟩; have HU4 := Aside0.mk hs; have HG4 := Aside0.mk hg; have HB4 := Aside0.mk (HB3.out.trans (hb.mono HB3.out.size)); have HBX := Aside0.mk hb; have HS4 := Aside0.mk (HS3.out.below hb); have HT4 := Aside0.mk (HT3.out.below hb); clear hs hg hb)
                | (go_at_call 32; (with_reducible refine (rResume.calls A0 c0 32 key A4 c4 20 t _ HLK.out HM.out HK.out (Kd.C_below HR.out HB4.out) HC0.out HLT.out HM20.out HYT.out (Kd.C_below (R_at HO3.out).1 HBX.out) (R_at HO3.out).2).mono ?_); rw [HRS.out]; rintro e w5 ⟨g4, A6, c6, rfl, hs, hg, hb⟩; have HV5 := Aside0.mk hs; have HG5 := Aside0.mk hg; have HU5 := Aside0.mk (HU4.out.below hb); have HB5 := Aside0.mk (HB4.out.trans (hb.mono HB4.out.size)); have HS5 := Aside0.mk (HS4.out.below hb); have HT5 := Aside0.mk (HT4.out.below hb); clear hs hg hb)
                | (go_at_call 33; (with_reducible refine (kNumber.calls g3 A5 c5 key N _ HU5.out).mono ?_); rintro e w6 ⟨rfl, rfl⟩)
                | (go_at_call 22; (with_reducible refine (rNumber.calls g4 A6 c6 key N _ HV5.out).mono ?_); rintro e w6 ⟨rfl, rfl⟩))
                  go_roundg q
                  case measure => omega
                  case rel => exact ⟨j + 1, g3, g4, A5, c5, A6, c6, N, by simp, rfl, rfl, by omega, HU5, HV5, HB5, ⟨Nat.le_trans HB3.out.size HG4.out, Nat.le_trans HB4.out.size HG5.out, Nat.ne_of_lt (Nat.lt_of_lt_of_le HU4.out.lt HG5.out)⟩⟩
                · have HRS := Aside0.mk hrs
                  have n1 : (er == 0) = false := beq_eq_false_iff_ne.2 her
                  have n2 : (er != 0) = true := bne_iff_ne.2 her
                  clear hrs her
                  go_wp2_with (first
                | (go_at_call 29; (with_reducible refine (kTicket.calls g A c key k _ HS1.out).mono ?_); rw [HTK.out]; rintro e w2 ⟨v2, rfl, ho, hb⟩; obtain ⟨A3, c3, e3⟩ := Kd.R_slice ho; rw [HLT.out] at e3; subst e3; have HO2 := Aside0.mk ho; have HS2 := Aside0.mk (HS1.out.below hb); have HT2 := Aside0.mk (HT1.out.below hb); have HB2 := Aside0.mk (HBW.out.trans (hb.mono HBW.out.size)); clear ho hb)
                | (go_at_call 30; (with_reducible refine (rTicket.calls g2 B d key k _ HT2.out).mono ?_); rw [HTK.out]; rintro e w3 ⟨v3, rfl, ho, hb⟩; obtain ⟨A4, c4, e4⟩ := Kd.R_slice ho; rw [HLT.out] at e4; subst e4; have HO3 := Aside0.mk ho; have HS3 := Aside0.mk (HS2.out.below hb); have HT3 := Aside0.mk (HT2.out.below hb); have HB3 := Aside0.mk (HB2.out.trans (hb.mono HB2.out.size)); have HC3 := Aside0.mk (Kd.C_below (R_at HO2.out).1 hb); have s4 := Kd.C_string (P := Try.prog) (c := c4) Try.underlying22 Try.underlying5 Try.underlying9 ((R_at ho).1); have s3 := Kd.C_string (P := Try.prog) (c := c3) Try.underlying22 Try.underlying5 Try.underlying9 (HC3.out); clear ho hb)
                | (go_at_call 31; (with_reducible refine (kResume.calls A0 c0 32 key A3 c3 20 t _ HLK.out HM.out HK.out (Kd.C_below HR.out HB3.out) HLT.out HM20.out HYT.out HC3.out (R_at HO2.out).2).mono ?_); rw [HRS.out]; rintro e w4 ⟨rfl, hb⟩; have HB4 := Aside0.mk (HB3.out.trans (hb.mono HB3.out.size)); have HBX := Aside0.mk hb; have HS4 := Aside0.mk (HS3.out.below hb); have HT4 := Aside0.mk (HT3.out.below hb); clear hb)
                | (go_at_call 32; (with_reducible refine (rResume.calls A0 c0 32 key A4 c4 20 t _ HLK.out HM.out HK.out (Kd.C_below HR.out HB4.out) HC0.out HLT.out HM20.out HYT.out (Kd.C_below (R_at HO3.out).1 HBX.out) (R_at HO3.out).2).mono ?_); rw [HRS.out]; rintro e w5 ⟨rfl, hb⟩; have HB5 := Aside0.mk (HB4.out.trans (hb.mono HB4.out.size)); have HS5 := Aside0.mk (HS4.out.below hb); have HT5 := Aside0.mk (HT4.out.below hb); clear hb)
                | (go_at_call 9; (with_reducible refine (wireglasslaw21_known.calls true _ rfl).mono ?_); rintro e wk ⟨rfl, hb⟩; have HBK9 := Aside0.mk hb; clear hb))
                  go_ret
                  exact ⟨rfl, HB5.out.trans (HBK9.out.mono HB5.out.size)⟩
            · rcases resumeA_two key V.l with ⟨N, hrs⟩ | ⟨er, her, hrs⟩
              · have HRS := Aside0.mk hrs
                clear hrs
                go_wp2_with (first
                | (go_at_call 31; (with_reducible refine (kResume.calls A0 c0 32 key V.A V.cp V.m V.l _ HLK.out HM.out HK.out (Kd.C_below HR.out HBW.out) HV.out.2.1 HV.out.2.2.2.2.1 HV.out.2.2.1 HV.out.1 HV.out.2.2.2.1).mono ?_); rw [HRS.out]; rintro e w4 ⟨g3, A5, c5, rfl, hs, hg, hb⟩; have HU4 := Aside0.mk hs; have HG4 := Aside0.mk hg; have HB4 := Aside0.mk (HBW.out.trans (hb.mono HBW.out.size)); have HBX := Aside0.mk hb; have HS4 := Aside0.mk (HS1.out.below hb); have HT4 := Aside0.mk (HT1.out.below hb); have hbk := blk_below HBK.out hb; have z5 : w4.cell? ⟨h0, 5, none⟩ = some (.slice V.A V.m V.cp) := blk_cell hbk 5; clear hbk; clear hs hg hb)
                | (go_at_call 32; (with_reducible refine (rResume.calls A0 c0 32 key V.A V.cp V.m V.l _ HLK.out HM.out HK.out (Kd.C_below HR.out HB4.out) HC0.out HV.out.2.1 HV.out.2.2.2.2.1 HV.out.2.2.1 (Kd.C_below HV.out.1 HBX.out) HV.out.2.2.2.1).mono ?_); rw [HRS.out]; rintro e w5 ⟨g4, A6, c6, rfl, hs, hg, hb⟩; have HV5 := Aside0.mk hs; have HG5 := Aside0.mk hg; have HU5 := Aside0.mk (HU4.out.below hb); have HB5 := Aside0.mk (HB4.out.trans (hb.mono HB4.out.size)); have HS5 := Aside0.mk (HS4.out.below hb); have HT5 := Aside0.mk (HT4.out.below hb); clear hs hg hb)
                | (go_at_call 33; (with_reducible refine (kNumber.calls g3 A5 c5 key N _ HU5.out).mono ?_); rintro e w6 ⟨rfl, rfl⟩)
                | (go_at_call 22; (with_reducible refine (rNumber.calls g4 A6 c6 key N _ HV5.out).mono ?_); rintro e w6 ⟨rfl, rfl⟩)
                | (go_at_call 33; (with_reducible refine (kNumber.calls g A c key k _ HS5.out).mono ?_); rintro e w6 ⟨rfl, rfl⟩)
                | (go_at_call 22; (with_reducible refine (rNumber.calls g2 B d key k _ HT5.out).mono ?_); rintro e w6 ⟨rfl, rfl⟩))
                go_roundg q
                case measure => omega
                case rel => exact ⟨j + 1, g, g2, A, c, B, d, k, by simp, rfl, rfl, by omega, HS5, HT5, HB5, HG⟩
              · have HRS := Aside0.mk hrs
                clear hrs her
                go_wp2_with (first
                | (go_at_call 31; (with_reducible refine (kResume.calls A0 c0 32 key V.A V.cp V.m V.l _ HLK.out HM.out HK.out (Kd.C_below HR.out HBW.out) HV.out.2.1 HV.out.2.2.2.2.1 HV.out.2.2.1 HV.out.1 HV.out.2.2.2.1).mono ?_); rw [HRS.out]; rintro e w4 ⟨rfl, hb⟩; have HB4 := Aside0.mk (HBW.out.trans (hb.mono HBW.out.size)); have HBX := Aside0.mk hb; have HS4 := Aside0.mk (HS1.out.below hb); have HT4 := Aside0.mk (HT1.out.below hb); have hbk := blk_below HBK.out hb; have z5 : w4.cell? ⟨h0, 5, none⟩ = some (.slice V.A V.m V.cp) := blk_cell hbk 5; clear hbk; clear hb)
                | (go_at_call 32; (with_reducible refine (rResume.calls A0 c0 32 key V.A V.cp V.m V.l _ HLK.out HM.out HK.out (Kd.C_below HR.out HB4.out) HC0.out HV.out.2.1 HV.out.2.2.2.2.1 HV.out.2.2.1 (Kd.C_below HV.out.1 HBX.out) HV.out.2.2.2.1).mono ?_); rw [HRS.out]; rintro e w5 ⟨rfl, hb⟩; have HB5 := Aside0.mk (HB4.out.trans (hb.mono HB4.out.size)); have HS5 := Aside0.mk (HS4.out.below hb); have HT5 := Aside0.mk (HT4.out.below hb); clear hb)
                | (go_at_call 33; (with_reducible refine (kNumber.calls g A c key k _ HS5.out).mono ?_); rintro e w6 ⟨rfl, rfl⟩)
                | (go_at_call 22; (with_reducible refine (rNumber.calls g2 B d key k _ HT5.out).mono ?_); rintro e w6 ⟨rfl, rfl⟩))
                go_roundg q
                case measure => omega
                case rel => exact ⟨j + 1, g, g2, A, c, B, d, k, by simp, rfl, rfl, by omega, HS5, HT5, HB5, HG⟩
          · have ej : j = i := by omega
            subst ej
            go_wp2_with (go_at_call 9; (with_reducible refine (wireglasslaw21_known.calls true _ rfl).mono ?_); rintro e wk ⟨rfl, hb⟩; have HBK9 := Aside0.mk hb; clear hb)
            go_ret
            exact ⟨rfl, HB.out.trans (HBK9.out.mono HB.out.size)⟩
      · have e : openA key = (none, 1) := by unfold openA; rw [if_pos (by have := HLK.out; omega)]
        have HOA := Aside0.mk e
        clear e h32
        go_wp2_with (first
          | (go_at_call 18; (with_reducible refine (kOpen.calls A0 c0 m0 key _ HLK.out HM.out HK.out HR.out).mono ?_); rw [HOA.out]; rintro e w1 ⟨rfl, hb⟩; have HB1 := Aside0.mk hb; clear hb)
          | (go_at_call 19; (with_reducible refine (rOpen.calls A0 c0 m0 key _ HLK.out HM.out HK.out (Kd.C_below HR.out HB1.out)).mono ?_); rw [HOA.out]; rintro e w2 ⟨rfl, hb⟩; have HB2 := Aside0.mk (HB1.out.trans (hb.mono HB1.out.size)); clear hb)
          | (go_at_call 27; (with_reducible refine (nothing.calls _).mono ?_); rintro e w3 ⟨rfl, hb⟩; have HB3 := Aside0.mk (HB2.out.trans (hb.mono HB2.out.size)); clear hb)
          | (go_at_call 9; (with_reducible refine (wireglasslaw21_known.calls true _ rfl).mono ?_); rintro e wk ⟨rfl, hb⟩; have HBK := Aside0.mk hb; clear hb))
        go_ret
        exact ⟨rfl, HB3.out.trans (HBK.out.mono HB3.out.size)⟩
end Go.Proofs.Ytpkmfaloncclaaa.T
