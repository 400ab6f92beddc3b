/- key.Try walked. Conditions: as each theorem says. -/
import Derived.Test.YtpkmfaloncclaaaS18
namespace Go.Proofs.Ytpkmfaloncclaaa.T
open Go Go.RowKit Go.Shelf Go.Proofs.Ytpkmfaloncclaaa.K Go.Proofs.Ytpkmfaloncclaaa.Pure Go.Proofs.YtpkmfaloncclaaaW.PrintWords Go.Proofs.YtpkmfaloncclaaaW.PrintLast Go.Proofs.YtpkmfaloncclaaaW.PrintMore Hand
attribute [local go_sem] Oper.semAt_some max2_int min2_int max_two min_two max_three min_three max_four min_four
set_option linter.unusedVariables false
theorem openA_der (s t : List Int) : openA (derN s t 4) = (some 0, 0) := by
  unfold openA
  rw [if_neg (by rw [derN_length]; decide)]
set_option maxHeartbeats 8000000 in
set_option maxRecDepth 100000 in
theorem kTry.calls (A0 : Option Addr) (c0 : Nat) (L : List SecV) (A1 : Option Addr) (c1 m1 : Nat) (salt : List Int) (A2 : Option Addr) (c2 m2 : Nat) (b : List Int) (w : World) (hL : SecsAt w A0 L) (hm0 : L.length ≤ 140737488351232) (hc0 : L.length ≤ c0) (hl1 : salt.length = m1) (hy1 : ByteL salt) (hr1 : Kd.C (Kd.int .u8) w A1 m1 salt) (hc1 : m1 ≤ c1) (hm1 : m1 ≤ 140737488351232) (hl2 : b.length = m2) (hy2 : ByteL b) (hr2 : Kd.C (Kd.int .u8) w A2 m2 b) (hc2 : m2 ≤ c2) (hm2 : m2 ≤ 140737488351232) :
    Calls Try.prog 25 #[.slice A0 L.length c0, .slice A1 m1 c1, .slice A2 m2 c2] w (TryPost w (tryA L salt b)) := by
  have HA := Aside0.mk hL
  have HC0 := Aside0.mk hc0
  have HP1 : Aside0 (salt.length = m1 ∧ ByteL salt ∧ m1 ≤ c1) := ⟨hl1, hy1, hc1⟩
  have HR1 := Aside0.mk hr1
  have HP2 : Aside0 (b.length = m2 ∧ ByteL b ∧ m2 ≤ c2) := ⟨hl2, hy2, hc2⟩
  have HR2 := Aside0.mk hr2
  obtain ⟨N, hN⟩ : ∃ N, L.length = N := ⟨_, rfl⟩
  have HN := Aside0.mk hN
  rw [hN] at hm0 ⊢
  unfold tryA
  rw [hl1, hl2]
  clear hL hc0 hl1 hy1 hr1 hc1 hl2 hy2 hr2 hc2 hN
  by_cases q1 : 131072 < m2
  · have b1 : decide (131072 < (m2 : Int)) = true := decide_eq_true (by omega)
    have b2 : decide (131072 < m2) = true := decide_eq_true q1
    rw [if_pos q1]
    go_enter Try.func25, Try.ntmps25
    go_wp2
    (try simp only [Exit.inBlock, Exit.then]); refine bodyPost_ret (results_tmp3 rfl _ _ _) rfl ?_
    exact ⟨_, rfl, Kd.R_nil _ _ _ _ _, Below.refl _ _⟩
  have b1 : decide (131072 < (m2 : Int)) = false := decide_eq_false (by omega)
  have b2 : decide (131072 < m2) = false := decide_eq_false q1
  rw [if_neg q1]
  by_cases q2 : 200 < m1
  · have b3 : decide (200 < (m1 : Int)) = true := decide_eq_true (by omega)
    have b4 : decide (200 < m1) = true := decide_eq_true q2
    rw [if_pos q2]
    go_enter Try.func25, Try.ntmps25
    go_wp2
    (try simp only [Exit.inBlock, Exit.then]); refine bodyPost_ret (results_tmp3 rfl _ _ _) rfl ?_
    exact ⟨_, rfl, Kd.R_nil _ _ _ _ _, Below.refl _ _⟩
  have b3 : decide (200 < (m1 : Int)) = false := decide_eq_false (by omega)
  have b4 : decide (200 < m1) = false := decide_eq_false q2
  rw [if_neg q2]
  obtain ⟨T, hT⟩ : ∃ T, tryL salt b L = T := ⟨_, rfl⟩
  have HT := Aside0.mk hT
  rw [hT]
  clear hT
  go_enter Try.func25, Try.ntmps25
  go_wp2
  clear b1 b2 b3 b4
  go_loopg [31] N (fun kq v31 W' => ∃ i : Nat, v31 = .int .i64 i ∧ i + kq = N ∧ Aside0 (Below w.heap.size w W') ∧ Aside0 (tryL salt b (L.drop i) = T))
  case atStart => exact ⟨0, rfl, by omega, ⟨Below.refl _ _⟩, HT⟩
  case round =>
    obtain ⟨i, rfl, hik, HB, HTi⟩ := hrel
    have i0 : (0 : Int) ≤ (i : Int) := by omega
    by_cases hi : i < N
    · obtain ⟨q, rfl⟩ : ∃ q, gk = q + 1 := ⟨gk - 1, by omega⟩
      have i1 : (i : Int) < (N : Int) := by omega
      obtain ⟨ad, eA, ha⟩ := HA.out i (by rw [HN.out]; exact hi)
      subst eA
      obtain ⟨V, hV⟩ : ∃ V, L[i]'(by rw [HN.out]; exact hi) = V := ⟨_, rfl⟩
      have HD : Aside0 (L.drop i = V :: L.drop (i + 1)) := ⟨by rw [← hV]; exact List.drop_eq_getElem_cons _⟩
      rw [hV] at ha
      have ha := ha.below HB.out
      have y0 := ha.1.1
      have y1 := ha.1.2
      clear hV
      go_upto_region 8 with (fail)
      obtain ⟨W1, hW1⟩ : ∃ W1, wr.alloc (.cells #[.string V.s, .slice V.A V.m V.cp] 49) = W1 := ⟨_, rfl⟩
      have HBK : Aside0 (W1.heap[wr.heap.size]? = some (.cells #[.string V.s, .slice V.A V.m V.cp] 49 (0, 0))) := ⟨by rw [← hW1]; exact heap_alloc_new _ _⟩
      have hB1 : Below wr.heap.size wr W1 := by rw [← hW1]; exact below_alloc (Below.refl _ _) _
      have HB1 := Aside0.mk (HB.out.trans (hB1.mono HB.out.size))
      have HV : Aside0 (V.l.length = V.m ∧ ByteL V.l ∧ V.m ≤ V.cp) := ⟨ha.2.2.1, ha.2.2.2.1, ha.2.2.2.2.1⟩
      have HVC : Aside0 (Kd.C (Kd.int .u8) W1 V.A V.m V.l) := ⟨Kd.C_below ha.2.1 hB1⟩
      rw [hW1]
      have z1 : W1.cell? ⟨wr.heap.size, 1, none⟩ = some (.slice V.A V.m V.cp) := blk_cell HBK.out 1
      obtain ⟨h0, hh0⟩ : ∃ h0, wr.heap.size = h0 := ⟨_, rfl⟩
      rw [hh0] at HBK z1 ⊢
      have HH0 : Aside0 (h0 < W1.heap.size) := ⟨(Array.getElem?_eq_some_iff.1 HBK.out).1⟩
      clear y0 y1 hW1 hB1 ha hh0
      by_cases hmk : makeOk V.l salt
      · have HMK := Aside0.mk hmk
        clear hmk
        obtain ⟨key, hkey⟩ : ∃ key, derN V.l salt 4 = key := ⟨_, rfl⟩
        have HLK : Aside0 (key.length = 32) := ⟨by rw [← hkey]; exact derN_length _ _ 4⟩
        have HYK : Aside0 (ByteL key) := ⟨by rw [← hkey]; exact derN_byte _ _ 4⟩
        have HOA : Aside0 (openA key = (some 0, 0)) := ⟨by rw [← hkey]; exact openA_der _ _⟩
        have HKEY := Aside0.mk hkey
        clear hkey
        go_upto_region 11 with (first
          | (go_at_call 14; (with_reducible refine (kMake.ok V.A V.cp V.m V.l A1 c1 m1 salt _ HV.out.1 HP1.out.1 HV.out.2.1 HP1.out.2.1 HVC.out HV.out.2.2 (Kd.C_below HR1.out HB1.out) HP1.out.2.2 HMK.out).mono ?_); rw [HKEY.out]; rintro e w3 ⟨A3, c3, rfl, ho, hb⟩; have HO3 := Aside0.mk (R_at ho).1; have HB3 := Aside0.mk (HB1.out.trans (hb.mono HB1.out.size)); have HBK3 := Aside0.mk (blk_below HBK.out hb); have HH3 : Aside0 (h0 < w3.heap.size) := ⟨Nat.lt_of_lt_of_le HH0.out hb.size⟩; clear ho hb)
          | (go_at_call 18; (with_reducible refine (kOpen.calls A3 c3 32 key w3 HLK.out (by decide) HYK.out HO3.out).mono ?_); rw [HOA.out]; rintro e w4 ⟨g, A4, c4, rfl, hs, hg, hb⟩; have HS4 := Aside0.mk hs; have HG4 : Aside0 (w.heap.size ≤ g ∧ h0 ≠ g) := ⟨Nat.le_trans HB3.out.size hg, Nat.ne_of_lt (Nat.lt_of_lt_of_le HH3.out hg)⟩; have HB4 := Aside0.mk (HB3.out.trans (hb.mono HB3.out.size)); have HBK4 := Aside0.mk (blk_below HBK3.out hb); clear hs hg hb))
        obtain ⟨TT, hTT⟩ : ∃ TT, readsOf key b = TT := ⟨_, rfl⟩
        have HTT := Aside0.mk hTT
        have HRT : Aside0 (Reads key 0 (b.drop 0) TT) := ⟨by rw [← hTT]; exact readsOf_is key HP2.out.2.1⟩
        clear hTT
        go_upto_region 13 with (fail)
        go_loopg [15, 16] m2 (fun kq v15 v16 W' => ∃ (xs ys : List (List Int)) (at_ : Nat) (Ar : Option Addr) (cr : Nat), v16 = .slice Ar kq cr ∧ at_ + kq = m2 ∧ xs.length ≤ at_ ∧ Aside0 (Kd.R rowsX 22 W' w.heap.size (fun k => k ≠ g) v15 xs) ∧ Aside0 (Kd.C (Kd.int .u8) w Ar kq (b.drop at_) ∧ kq ≤ cr) ∧ Aside0 (Sess 71 W' g A4 c4 key xs.length) ∧ Aside0 (Reads key xs.length (b.drop at_) ys ∧ xs ++ ys = TT) ∧ Aside0 (Below w.heap.size w W') ∧ Aside0 (W'.heap[h0]? = some (.cells #[.string V.s, .slice V.A V.m V.cp] 49 (0, 0))))
        case atStart => exact ⟨[], TT, 0, A2, c2, rfl, by omega, Nat.le_refl _, ⟨Kd.R_nil _ _ _ _ _⟩, ⟨HR2.out, HP2.out.2.2⟩, HS4, ⟨HRT.out, rfl⟩, HB4, HBK4⟩
        case round =>
          clear HS4 HB4 HBK4 HB3 HBK3 HO3 HH3 HRT
          obtain ⟨xs, ys, at_, Ar, cr, rfl, hat, hxs, HX, HC, HS, HRD, HBW, HBKW⟩ := hrel
          have HLD : Aside0 ((b.drop at_).length = gk) := ⟨by rw [List.length_drop, HP2.out.1]; omega⟩
          have HYD : Aside0 (ByteL (b.drop at_)) := ⟨byteL_drop HP2.out.2.1 _⟩
          have HGK : Aside0 (gk ≤ 140737488351232) := ⟨by omega⟩
          obtain ⟨A15, c15, e15⟩ := Kd.R_slice HX.out
          subst e15
          obtain ⟨n, hn⟩ : ∃ n, xs.length = n := ⟨_, rfl⟩
          have HN5 := Aside0.mk hn
          rw [hn] at HS HRD hxs ⊢
          have HX0 : Aside0 (Kd.R rowsX 22 wr w.heap.size (fun k => k ≠ g) (.slice A15 n c15) xs) := ⟨by rw [← hn]; exact HX.out⟩
          clear HX
          rcases readA_two key n HYD.out with ⟨er, her, hra⟩ | ⟨kd, body, m, hra, hm11, hmk⟩
          · have HRA := Aside0.mk hra
            have u1 : (er == 0) = false := beq_eq_false_iff_ne.2 her
            have u2 : (er != 0) = true := bne_iff_ne.2 her
            have HXS : Aside0 (xs = TT) := ⟨by
              have h1 := HRD.out.1.at_stop (by rw [hra]; exact her)
              have h2 := HRD.out.2
              rw [h1, List.append_nil] at h2
              exact h2⟩
            clear hra her
            by_cases h0g : gk = 0
            · subst h0g
              by_cases hn0 : n = 0
              · subst hn0
                have HXN : Aside0 (TT = []) := ⟨by rw [← HXS.out]; exact List.length_eq_zero_iff.1 HN5.out⟩
                go_wp2
                go_roundg q
                case measure => omega
                case rel => exact ⟨i + 1, by simp, by omega, HBW, ⟨by have h := HTi.out; rw [HD.out, tryL_no (fun _ => by rw [HKEY.out, HTT.out]; exact HXN.out)] at h; exact h⟩⟩
              · have u3 : decide (0 < (n : Int)) = true := decide_eq_true (by omega)
                have u4 : decide (0 < n) = true := decide_eq_true (by omega)
                have y0 : wr.cell? ⟨h0, 0, none⟩ = some (.string V.s) := blk_cell HBKW.out 0
                have HXN : Aside0 (TT ≠ []) := ⟨by rw [← HXS.out]; intro h; rw [h] at hn; exact hn0 hn.symm⟩
                go_wp2
                (try simp only [Exit.inBlock, Exit.then]); refine bodyPost_ret (results_tmp3 rfl _ _ _) rfl ?_
                have h := HTi.out
                rw [HD.out, tryL_yes HMK.out (by rw [HKEY.out, HTT.out]; exact HXN.out), HKEY.out, HTT.out, ← HXS.out] at h
                rw [← h]
                exact ⟨_, rfl, Kd.R_mono HX0.out (fun _ _ => trivial), HBW.out⟩
            · have u3 : decide (0 < (gk : Int)) = true := decide_eq_true (by omega)
              have u4 : decide (0 < gk) = true := decide_eq_true (by omega)
              by_cases hn0 : n = 0
              · subst hn0
                have HXN : Aside0 (TT = []) := ⟨by rw [← HXS.out]; exact List.length_eq_zero_iff.1 HN5.out⟩
                go_wp2_with (go_at_call 23; (with_reducible refine (kRead.calls g A4 c4 key ((0 : Nat) : Int) Ar cr gk (b.drop at_) _ HS.out HGK.out HLD.out HYD.out (Kd.C_below HC.out.1 HBW.out) HC.out.2).mono ?_); rw [HRA.out]; rintro e w5 ⟨A5, c5, co5, rfl, hl, ho, hs, hmv⟩; have HB5 := Aside0.mk (Moved.all HBW.out hmv HG4.out.1); clear hl ho hs hmv)
                go_roundg q
                case measure => omega
                case rel => exact ⟨i + 1, by simp, by omega, HB5, ⟨by have h := HTi.out; rw [HD.out, tryL_no (fun _ => by rw [HKEY.out, HTT.out]; exact HXN.out)] at h; exact h⟩⟩
              · have u5 : decide (0 < (n : Int)) = true := decide_eq_true (by omega)
                have u6 : decide (0 < n) = true := decide_eq_true (by omega)
                have HXN : Aside0 (TT ≠ []) := ⟨by rw [← HXS.out]; intro h; rw [h] at hn; exact hn0 hn.symm⟩
                go_wp2_with (go_at_call 23; (with_reducible refine (kRead.calls g A4 c4 key (n : Int) Ar cr gk (b.drop at_) _ HS.out HGK.out HLD.out HYD.out (Kd.C_below HC.out.1 HBW.out) HC.out.2).mono ?_); rw [HRA.out]; rintro e w5 ⟨A5, c5, co5, rfl, hl, ho, hs, hmv⟩; have HB5 := Aside0.mk (Moved.all HBW.out hmv HG4.out.1); have HX5 := Aside0.mk (Kd.R_keep HX0.out hmv.2 (fun _ h => h)); have y0 : w5.cell? ⟨h0, 0, none⟩ = some (.string V.s) := blk_cell (hmv.2.blk HBKW.out HG4.out.2 (by simp)) 0; clear hl ho hs hmv)
                (try simp only [Exit.inBlock, Exit.then]); refine bodyPost_ret (results_tmp3 rfl _ _ _) rfl ?_
                have h := HTi.out
                rw [HD.out, tryL_yes HMK.out (by rw [HKEY.out, HTT.out]; exact HXN.out), HKEY.out, HTT.out, ← HXS.out] at h
                rw [← h]
                exact ⟨_, rfl, Kd.R_mono HX5.out (fun _ _ => trivial), HB5.out⟩
          · rw [HLD.out] at hmk
            have HRA := Aside0.mk hra
            obtain ⟨ys', hys, hrd⟩ := HRD.out.1.at_step hra
            have HRD2 : Aside0 (Reads key ((n : Int) + 1) (b.drop (at_ + m)) ys' ∧ xs ++ [body] ++ ys' = TT) := ⟨by rw [List.drop_drop] at hrd; exact hrd, by have h := HRD.out.2; rw [hys] at h; rw [List.append_assoc]; exact h⟩
            have u3 : decide (0 < (gk : Int)) = true := decide_eq_true (by omega)
            have u4 : decide (0 < gk) = true := decide_eq_true (by omega)
            obtain ⟨Ad, hcut, hcd⟩ := cut_from Ar cr gk (b.drop at_) HLD.out HC.out.2 m hmk
            have HCD : Aside0 (Kd.C (Kd.int .u8) w Ad (gk - m) (b.drop (at_ + m)) ∧ gk - m ≤ cr - m) := ⟨by have h := hcd w HC.out.1; rw [List.drop_drop] at h; exact h, by have := HC.out.2; omega⟩
            have HOK : Aside0 (∀ k, wr.heap.size ≤ k → k ≠ g ∧ some k ≠ (Value.slice A15 n c15).ownBlock) := ⟨fun k hk => ⟨Nat.ne_of_gt (Nat.lt_of_lt_of_le HS.out.lt hk), fun e => by
              obtain ⟨inner, ho⟩ := Kd.R_own HX0.out
              have := own_lt ho k e.symm
              omega⟩⟩
            clear hra hys hrd hcd
            go_upto_region 17 with (first
              | (go_at_call 23; (with_reducible refine (kRead.calls g A4 c4 key (n : Int) Ar cr gk (b.drop at_) _ HS.out HGK.out HLD.out HYD.out (Kd.C_below HC.out.1 HBW.out) HC.out.2).mono ?_); rw [HRA.out]; rintro e w5 ⟨A5, c5, co5, rfl, hl, ho, hs, hmv⟩; have HM5 := Aside0.mk (rowsX_M hl ho HBW.out.size); have HS5 := Aside0.mk hs; have HB5 := Aside0.mk (Moved.all HBW.out hmv HG4.out.1); have HX5 := Aside0.mk (Kd.R_keep HX0.out hmv.2 (fun _ h => h)); have HBK5 := Aside0.mk (hmv.2.blk HBKW.out HG4.out.2 (by simp)); have HFR : Aside0 (∀ k, w5.heap.size ≤ k → k ≠ g) := ⟨fun k hk => Nat.ne_of_gt (Nat.lt_of_lt_of_le hs.lt hk)⟩; clear hl ho hs hmv)
              | ((with_reducible refine gate_builtin (b := .append) (xs := #[.tmp 63, .tmp 65]) rfl ?_); at_builtin; refine Kd.R_append rowsX (w0 := w) w.heap.size rfl (.tmp 63) (.tmp 65) 34 22 (.slice none 0 0) 24 rfl Try.underlying34 infoR rfl (by decide) (by omega) (.slice A15 n c15) xs body [.slice A5 body.length c5] (fun k => k ≠ g) (fun k => wr.heap.size ≤ k) rfl rfl HM5.out HOK.out HFR.out HX5.out HB5.out ?aS ?aL ?_; (case aS => exact HB5.out.size); (case aL => rw [HN5.out]; omega); intro v6 w6 ho hb hg _; have HX6 := Aside0.mk ho; have HB6 := Aside0.mk hb; have HS6 := Aside0.mk (HS5.out.grown (Kd.R_own HX5.out).choose_spec (by decide) (by decide) (by decide) hg); have HBK6 := Aside0.mk (blk_grown HBK5.out (Kd.R_own HX5.out).choose_spec (by decide) hg); clear ho hb hg))
            have HLN : Aside0 ((xs ++ [body]).length = n + 1) := ⟨by rw [List.length_append, HN5.out]; rfl⟩
            have HS7 : Aside0 (Sess 71 w6 g A4 c4 key ((xs ++ [body]).length : Nat)) := ⟨by rw [HLN.out]; exact HS6.out⟩
            have HR7 : Aside0 (Reads key ((xs ++ [body]).length : Nat) (b.drop (at_ + m)) ys' ∧ xs ++ [body] ++ ys' = TT) := ⟨by rw [HLN.out]; exact HRD2.out.1, HRD2.out.2⟩
            clear u3 u4
            go_wp2
            clear hcut
            go_roundg (gk - m)
            case measure => omega
            case rel => exact ⟨xs ++ [body], ys', at_ + m, Ad, cr - m, rfl, by omega, by rw [HLN.out]; omega, HX6, HCD, HS7, HR7, HB6, HBK6⟩
      · have HMK := Aside0.mk hmk
        clear hmk
        go_wp2_with (go_at_call 14; (with_reducible refine (kMake.no V.A V.cp V.m V.l A1 c1 m1 salt _ HV.out.1 HP1.out.1 HV.out.2.1 HP1.out.2.1 HVC.out HV.out.2.2 (Kd.C_below HR1.out HB1.out) HP1.out.2.2 HMK.out).mono ?_); rintro e w3 ⟨v3, rfl, hb⟩; have HB3 := Aside0.mk (HB1.out.trans (hb.mono HB1.out.size)); clear hb)
        go_roundg q
        case measure => omega
        case rel => exact ⟨i + 1, by simp, by omega, HB3, ⟨by have h := HTi.out; rw [HD.out, tryL_no (fun h => absurd h HMK.out)] at h; exact h⟩⟩
    · have ei : i = N := by omega
      subst ei
      have HE : Aside0 (T = (ByteArray.empty, [], 4)) := ⟨by rw [← HTi.out, List.drop_of_length_le (by rw [HN.out]; exact Nat.le_refl _)]; rfl⟩
      go_wp2
      (try simp only [Exit.inBlock, Exit.then]); refine bodyPost_ret (results_tmp3 rfl _ _ _) rfl ?_
      rw [HE.out]
      exact ⟨_, rfl, Kd.R_nil _ _ _ _ _, HB.out⟩
end Go.Proofs.Ytpkmfaloncclaaa.T
