/- The law KeyOrder walked: what one end closes the other one reads. Conditions: as each theorem says. -/
import Derived.Test.YtpkmfaloncclaaaS12
import Derived.Test.YtpkmfaloncclaaaS15
import Derived.Deep.QuietTactic
import Derived.BigQuiet
namespace Go.Proofs.Ytpkmfaloncclaaa.T
open Go Go.RowKit Go.Shelf Go.Proofs.Ytpkmfaloncclaaa.K Go.Proofs.Ytpkmfaloncclaaa.Pure Go.Proofs.YtpkmfaloncclaaaW.PrintWords Go.Proofs.YtpkmfaloncclaaaW.PrintLast Go.Proofs.YtpkmfaloncclaaaW.PrintMore Hand
attribute [local go_sem] Oper.semAt_some max2_int min2_int max_two min_two max_three min_three max_four min_four
set_option linter.unusedVariables false
/-- One row of bytes of a row of rows. -/
structure RowV where
  A : Option Addr
  m : Nat
  cp : Nat
  l : List Int
def RowAt (w : World) (x : Addr) (v : RowV) : Prop :=
  w.cell? x = some (.slice v.A v.m v.cp) ∧ Kd.C (Kd.int .u8) w v.A v.m v.l ∧ v.l.length = v.m ∧ ByteL v.l ∧ v.m ≤ v.cp ∧ v.m ≤ 140737488351232
def RowsAt (w : World) (A : Option Addr) (L : List RowV) : Prop := ∀ i (h : i < L.length), ∃ ad, A = some ad ∧ RowAt w (ad.add i) L[i]
theorem RowAt.below {w w' : World} {x : Addr} {v : RowV} (h : RowAt w x v) (hb : Below w.heap.size w w') : RowAt w' x v := ⟨pw_cell_below hb h.1, Kd.C_below h.2.1 hb, h.2.2⟩
theorem at_bd (a M : Int) (h : 0 < M) (hM : M ≤ 4000) : 0 ≤ (wrap64 (a.tmod M + M)).tmod M ∧ (wrap64 (a.tmod M + M)).tmod M < M := by
  have t1 := Int.tmod_lt_of_pos a h
  have t2 := Int.lt_tmod_of_pos a h
  rw [w64 (by omega) (by omega)]
  exact ⟨Int.tmod_nonneg M (by omega), Int.tmod_lt_of_pos _ h⟩
theorem readA_num (key : List Int) (n : Int) (b : List Int) : (readA key n b).2 = n ∨ (readA key n b).2 = n + 1 := by
  unfold readA
  repeat' split
  all_goals first | exact .inl rfl | exact .inr rfl
theorem bits_u8 (a b : Int) : 0 ≤ Go.bits .xor .u8 a b ∧ Go.bits .xor .u8 a b ≤ 255 := by
  simp only [Go.bits]
  rw [IntKind.wrap_u8]
  omega
theorem byteL_set {l : List Int} (h : ByteL l) (i : Nat) {x : Int} (hx : 0 ≤ x ∧ x ≤ 255) : ByteL (l.set i x) := fun y hy => by
  rcases List.mem_or_eq_of_mem_set hy with hy | rfl
  · exact h y hy
  · exact hx
section
variable {w w' : World} {g g2 : Nat} {A B : Option Addr} {c d : Nat} {key : List Int} {n : Int}
theorem Moved2.mid (h2 : Sess 73 w g2 B d key n) (h : Sess 71 w g A c key n) (hne : g ≠ g2) {v : World} (h1 : Moved g w v) : Sess 73 v g2 B d key n := h2.other h.1 (by decide) h1 (fun e => hne e.symm)
theorem C_moved2 (h : Sess 71 w g A c key n) (h2 : Sess 73 w g2 B d key n) (hne : g ≠ g2) (hm : Moved2 g g2 w w') {A2 : Option Addr} {m2 : Nat} {l2 : List Int} (hl : l2.length = m2) (hc : Kd.C (Kd.int .u8) w A2 m2 l2) : Kd.C (Kd.int .u8) w' A2 m2 l2 := by
  obtain ⟨v, h3, h4⟩ := hm
  exact C_moved (Moved2.mid h2 h hne h3) h4 hl (C_moved h h3 hl hc)
theorem Sess.other2 {T0 : TypeId} {g0 : Nat} {A0 : Option Addr} {c0 : Nat} {n0 : Int} (h0 : Sess T0 w g0 A0 c0 key n0) (h : Sess 71 w g A c key n) (h2 : Sess 73 w g2 B d key n) (hne : g ≠ g2) (hm : Moved2 g g2 w w') (e1 : g0 ≠ g) (e2 : g0 ≠ g2) : Sess T0 w' g0 A0 c0 key n0 := by
  obtain ⟨v, h3, h4⟩ := hm
  exact (h0.other h.1 (by decide) h3 e1).other (Moved2.mid h2 h hne h3).1 (by decide) h4 e2
theorem Moved2.all {w0 : World} (hb : Below w0.heap.size w0 w) (h : Moved2 g g2 w w') (e1 : w0.heap.size ≤ g) (e2 : w0.heap.size ≤ g2) : Below w0.heap.size w0 w' := by
  obtain ⟨v, h3, h4⟩ := h
  exact Moved.all (Moved.all hb h3 e1) h4 e2
theorem Moved2.blk (h : Moved2 g g2 w w') {k : Nat} {o : Obj} (hk : w.heap[k]? = some o) (e1 : k ≠ g) (e2 : k ≠ g2) : w'.heap[k]? = some o := by
  obtain ⟨v, h3, h4⟩ := h
  exact h4.2.blk (h3.2.blk hk e1 (by simp)) e2 (by simp)
end
theorem wrap64_bd2 (n : Int) : -9223372036854775808 ≤ wrap64 n ∧ wrap64 n < 9223372036854775808 := by
  unfold wrap64
  omega
set_option maxHeartbeats 8000000 in
set_option maxRecDepth 100000 in
theorem KeyOrder.walk0 (A0 : Option Addr) (c0 m0 : Nat) (key : List Int) (A1 : Option Addr) (c1 : Nat) (L : List RowV) (a2_0 a2_1 : Int) (w : World) (hl : key.length = m0) (hm : m0 ≤ 140737488351232) (hk : ByteL key) (hr : Kd.C (Kd.int .u8) w A0 m0 key) (hc0 : m0 ≤ c0) (hL : RowsAt w A1 L) (hm1 : L.length ≤ 140737488351232) (hc1 : L.length ≤ c1) (w0 : (Lit.int .i64 a2_0).wf = true) (w1 : (Lit.int .i64 a2_1).wf = true) :
    Calls Try.prog 6 #[.slice A0 m0 c0, .slice A1 L.length c1, .agg #[.int .i64 a2_0, .int .i64 a2_1]] w fun e w' => e = .returned (.bool true) ∧ Below w.heap.size w w' := by
  have HLK := Aside0.mk hl
  have HK := Aside0.mk hk
  have HR := Aside0.mk hr
  have HM := Aside0.mk hm
  have HC0 := Aside0.mk hc0
  have HA := Aside0.mk hL
  have HM1 := Aside0.mk hm1
  have HC1 := Aside0.mk hc1
  have HW0 := Aside0.mk (wf64 w0)
  have HW1 := Aside0.mk (wf64 w1)
  have hu := Try.underlying23
  obtain ⟨N, hN⟩ : ∃ N, L.length = N := ⟨_, rfl⟩
  have HN := Aside0.mk hN
  rw [hN] at hm1 ⊢
  have hmx := hm1
  clear hl hk hr hc0 hL hc1 hN hm1 w0 w1
  go_enter Try.func6, Try.ntmps6
  go_wp2
  obtain ⟨W1, hW1⟩ : ∃ W1, w.alloc (.cells #[.int .i64 a2_0, .int .i64 a2_1] 23) = W1 := ⟨_, rfl⟩
  have HBX : Aside0 (W1.heap[w.heap.size]? = some (.cells #[.int .i64 a2_0, .int .i64 a2_1] 23 (0, 0))) := ⟨by rw [← hW1]; exact heap_alloc_new _ _⟩
  have HB1 : Aside0 (Below w.heap.size w W1) := ⟨by rw [← hW1]; exact below_alloc (Below.refl _ _) _⟩
  rw [hW1]
  clear hW1
  go_loopg [7, 8] N (fun kq v7 v8 W' => ∃ (i : Nat) (n : Int), v8 = .int .i64 i ∧ v7 = .int .i64 n ∧ i + kq = N ∧ (-9223372036854775808 ≤ n ∧ n < 9223372036854775808) ∧ W1 = W')
  case atStart => exact ⟨0, m0, rfl, rfl, by omega, by omega, rfl⟩
  case round =>
    obtain ⟨i, n, rfl, rfl, hk, hn, rfl⟩ := hrel
    have i0 : (0 : Int) ≤ (i : Int) := by omega
    by_cases hi : i < N
    · obtain ⟨q, rfl⟩ : ∃ q, gk = q + 1 := ⟨gk - 1, by omega⟩
      obtain ⟨ad, eA, ha⟩ := HA.out i (by rw [HN.out]; exact hi)
      subst eA
      have ha := ha.below HB1.out
      have y5 := ha.1
      have i1 : (i : Int) < (N : Int) := by omega
      have bm := ha.2.2.2.2.2
      go_wp2
      go_roundg q
      case measure => omega
      case rel => exact ⟨i + 1, _, by simp, rfl, by omega, wrap64_bd2 _, rfl⟩
    · have ei : i = N := by omega
      subst ei
      have e0 : gk = 0 := by omega
      by_cases q1 : 40000 < n
      · have b1 : decide (40000 < n) = true := decide_eq_true q1
        clear hn
        go_wp2_with (go_at_call 9; (with_reducible refine (wireglasslaw21_known.calls true _ rfl).mono ?_); rintro e wk ⟨rfl, hb⟩; have HBK9 := Aside0.mk hb; clear hb)
        go_ret
        exact ⟨rfl, HB1.out.trans (HBK9.out.mono HB1.out.size)⟩
      have b1 : decide (40000 < n) = false := decide_eq_false q1
      by_cases q2 : 60 < (i : Int)
      · have b2 : decide (60 < (i : Int)) = true := decide_eq_true q2
        have b3 : decide (60 < i) = true := decide_eq_true (by omega)
        clear hn
        go_wp2_with (go_at_call 9; (with_reducible refine (wireglasslaw21_known.calls true _ rfl).mono ?_); rintro e wk ⟨rfl, hb⟩; have HBK9 := Aside0.mk hb; clear hb)
        go_ret
        exact ⟨rfl, HB1.out.trans (HBK9.out.mono HB1.out.size)⟩
      have b2 : decide (60 < (i : Int)) = false := decide_eq_false q2
      have b3 : decide (60 < i) = false := decide_eq_false (by omega)
      clear hn
      by_cases h32 : m0 = 32
      · have e : openA key = (some 0, 0) := by unfold openA; rw [if_neg (by have := HLK.out; omega)]
        have HOA := Aside0.mk e
        clear e
        subst h32
        go_wp2_with (first
          | (go_at_call 18; (with_reducible refine (kOpen.calls A0 c0 32 key W1 HLK.out HM.out HK.out (Kd.C_below HR.out HB1.out)).mono ?_); rw [HOA.out]; rintro e w2 ⟨g, A2, c2, rfl, hs, hg, hb⟩; have HS2 := Aside0.mk hs; have HG2 := Aside0.mk hg; have HB2x := Aside0.mk hb; have HB2 := Aside0.mk (HB1.out.trans (hb.mono HB1.out.size)); clear hs hg hb)
          | (go_at_call 18; (with_reducible refine (kOpen.calls A0 c0 32 key w2 HLK.out HM.out HK.out (Kd.C_below HR.out HB2.out)).mono ?_); rw [HOA.out]; rintro e w3 ⟨g3, A3, c3, rfl, hs, hg, hb⟩; have HS3 := Aside0.mk (HS2.out.below hb); have HT3 := Aside0.mk hs; have HG3 := Aside0.mk hg; have HB3x := Aside0.mk hb; have HB3 := Aside0.mk (HB2.out.trans (hb.mono HB2.out.size)); clear hs hg hb)
          | (go_at_call 19; (with_reducible refine (rOpen.calls A0 c0 32 key w3 HLK.out HM.out HK.out (Kd.C_below HR.out HB3.out)).mono ?_); rw [HOA.out]; rintro e w4 ⟨g4, A4, c4, rfl, hs, hg, hb⟩; have HS4 := Aside0.mk (HS3.out.below hb); have HT4 := Aside0.mk (HT3.out.below hb); have HU4 := Aside0.mk hs; have HG4 := Aside0.mk hg; have HB4x := Aside0.mk hb; have HB4 := Aside0.mk (HB3.out.trans (hb.mono HB3.out.size)); clear hs hg hb))
        have HGG : Aside0 (w.heap.size < g ∧ g < g3 ∧ g3 < g4) := ⟨by have := HG2.out; have := HBX.out; have h1 : w.heap.size < W1.heap.size := (Array.getElem?_eq_some_iff.1 HBX.out).1; omega, Nat.lt_of_lt_of_le HS2.out.lt HG3.out, Nat.lt_of_lt_of_le HT3.out.lt HG4.out⟩
        have HBX4 : Aside0 (w4.heap[w.heap.size]? = some (.cells #[.int .i64 a2_0, .int .i64 a2_1] 23 (0, 0))) := ⟨blk_below (blk_below (blk_below HBX.out HB2x.out) HB3x.out) HB4x.out⟩
        go_loopg [15, 16] i (fun kq v15 v16 W' => ∃ (j : Nat) (Ab : Option Addr) (mb cb : Nat) (lb : List Int), v16 = .int .i64 j ∧ v15 = .slice Ab mb cb ∧ j + kq = i ∧ Aside0 (Sess 71 W' g A2 c2 key j) ∧ Aside0 (Sess 71 W' g3 A3 c3 key j) ∧ Aside0 (Sess 73 W' g4 A4 c4 key j) ∧ Aside0 (Below w.heap.size w W') ∧ Aside0 (W'.heap[w.heap.size]? = some (.cells #[.int .i64 a2_0, .int .i64 a2_1] 23 (0, 0))) ∧ Aside0 (Kd.C (Kd.int .u8) W' Ab mb lb ∧ lb.length = mb ∧ ByteL lb ∧ mb ≤ cb ∧ mb ≤ 1000))
        case atStart => exact ⟨0, none, 0, 0, [], rfl, rfl, by omega, HS4, HT4, HU4, HB4, HBX4, ⟨(R_at (Kd.R_nil (Kd.int .u8) 5 w4 0 (fun _ => True))).1, rfl, (fun x hx => absurd hx (by simp)), Nat.le_refl _, by decide⟩⟩
        case round =>
          obtain ⟨j, Ab, mb, cb, lb, rfl, rfl, hjk, HSa, HSb, HSc, HBw, HBXw, HRb⟩ := hrel
          have j0 : (0 : Int) ≤ (j : Int) := by omega
          by_cases hj : j < i
          · obtain ⟨q, rfl⟩ : ∃ q, gk = q + 1 := ⟨gk - 1, by omega⟩
            have j1 : (j : Int) < (i : Int) := by omega
            have j59 : (j : Int) ≤ 59 := by omega
            obtain ⟨ad, eA, ha⟩ := HA.out j (by rw [HN.out]; exact hj)
            subst eA
            obtain ⟨V, hV⟩ : ∃ V, L[j]'(by rw [HN.out]; exact hj) = V := ⟨_, rfl⟩
            rw [hV] at ha
            have HV := Aside0.mk ha
            have y5 := (ha.below HBw.out).1
            have bm := ha.2.2.2.2.2
            have HVV : Aside0 (V.l.length = V.m ∧ ByteL V.l ∧ V.m ≤ V.cp ∧ V.m ≤ 140737488351232) := ⟨ha.2.2⟩
            have HCV : Aside0 (Kd.C (Kd.int .u8) wr V.A V.m V.l) := ⟨(ha.below HBw.out).2.1⟩
            clear ha hV hk
            by_cases q3 : 400 < V.m
            · have b4 : decide (400 < (V.m : Int)) = true := decide_eq_true (by omega)
              have b5 : decide (400 < V.m) = true := decide_eq_true q3
              have HCA : Aside0 (closeA key j j V.l = (([], 3), (j : Int))) := ⟨by unfold closeA; rw [if_neg (by omega), if_pos (by rw [HV.out.2.2.1]; exact q3)]⟩
              clear q3
              go_wp2_with (first
                | (go_at_call 20; (with_reducible refine (kClose.calls g A2 c2 key j j V.A V.cp V.m V.l _ HSa.out HVV.out.2.2.2 HVV.out.1 HVV.out.2.1 HCV.out HVV.out.2.2.1).mono ?_); rw [HCA.out]; rintro e w5 ⟨v5, rfl, ho, hs, hmv⟩; have HB5 := Aside0.mk (Moved.all HBw.out hmv (Nat.le_of_lt HGG.out.1)); clear ho hs hmv; have y6 := (HV.out.below HB5.out).1)
                | (go_at_call 9; (with_reducible refine (wireglasslaw21_known.calls true _ rfl).mono ?_); rintro e wk ⟨rfl, hb⟩; have HBK9 := Aside0.mk hb; clear hb))
              go_ret
              exact ⟨rfl, HB5.out.trans (HBK9.out.mono HB5.out.size)⟩
            · have b4 : decide (400 < (V.m : Int)) = false := decide_eq_false (by omega)
              have b5 : decide (400 < V.m) = false := decide_eq_false q3
              have HCA : Aside0 (closeA key j j V.l = ((recOf key j j V.l, 0), (j : Int) + 1)) := ⟨by unfold closeA; rw [if_neg (by omega), if_neg (by rw [HV.out.2.2.1]; exact q3), if_neg (by omega)]⟩
              have HLR : Aside0 ((recOf key j j V.l).length = V.m + 11) := ⟨by rw [recOf_length, HV.out.2.2.1]⟩
              have b6 : (V.m : Int) ≤ 400 := by omega
              clear q3
              have HJR : Aside0 (0 < (recOf key j j V.l).length) := ⟨by rw [HLR.out]; omega⟩
              go_upto_region 23 with (go_at_call 20; (with_reducible refine (kClose.calls g A2 c2 key j j V.A V.cp V.m V.l _ HSa.out HVV.out.2.2.2 HVV.out.1 HVV.out.2.1 HCV.out HVV.out.2.2.1).mono ?_); rw [HCA.out]; rintro e w5 ⟨v5, rfl, ho, hs, hmv⟩; obtain ⟨A5, c5, e5⟩ := Kd.R_slice ho; rw [HLR.out] at e5; subst e5; obtain ⟨g5, e5, hg5⟩ := R_addr ho HJR.out; subst e5; have HO5 := Aside0.mk ho; have HG5 := Aside0.mk hg5; have HS5 := Aside0.mk hs; have HM5 := Aside0.mk hmv; have HB5 := Aside0.mk (Moved.all HBw.out hmv (Nat.le_of_lt HGG.out.1)); clear ho hs hmv hg5; have y6 := (HV.out.below HB5.out).1; have HBX5 : Aside0 (w5.heap[w.heap.size]? = some (.cells #[.int .i64 a2_0, .int .i64 a2_1] 23 (0, 0))) := ⟨HM5.out.2.blk HBXw.out (Nat.ne_of_lt HGG.out.1) (by simp)⟩; have x0 := blk_cell HBX5.out 0; have x1 := blk_cell HBX5.out 1)
              obtain ⟨AT, hAT, hA2⟩ : ∃ AT : Nat, (wrap64 (a2_0.tmod (8 * ((V.m : Int) + 11)) + 8 * ((V.m : Int) + 11))).tmod (8 * ((V.m : Int) + 11)) = (AT : Int) ∧ AT < 8 * (V.m + 11) := by
                have h := at_bd a2_0 (8 * ((V.m : Int) + 11)) (by omega) (by omega)
                exact ⟨_, (Int.toNat_of_nonneg h.1).symm, by omega⟩
              rw [hAT]
              obtain ⟨D, hD⟩ : ∃ D : Nat, (AT : Int) / 8 = (D : Int) := ⟨AT / 8, by omega⟩
              have hD2 : (D : Int) < (V.m : Int) + 11 := by omega
              have hD3 : D < V.m + 11 := by omega
              have hD0 : (0 : Int) ≤ (D : Int) := by omega
              clear hAT
              go_upto_region 24 with ((with_reducible refine gate_builtin (b := .append) (xs := #[.const (.slice none 0 0), .tmp 130]) rfl ?_); at_builtin; refine Kd.R_append_rows (Kd.int .u8) (w0 := w5) w5.heap.size rfl (.const (.slice none 0 0)) (.tmp 130) 22 5 (.int .u8 0) 1 rfl Try.underlying22 info5 rfl (by decide) (by omega) _ [] (recOf key j j V.l) (some ⟨g5, 0, none⟩) (V.m + 11) c5 (fun _ => True) (fun _ => False) rfl rfl (Kd.R_nil _ _ _ _ _) (R_at HO5.out).1 (fun _ _ h => h) (fun _ h => h.elim) (fun _ _ => trivial) (Below.refl _ _) ?aS ?aL ?_; (case aS => exact Nat.le_refl _); (case aL => simp only [List.length_nil]; clear hD; omega); intro v6 w6 ho hb _ _; rw [List.nil_append] at ho; obtain ⟨A6, c6, e6⟩ := Kd.R_slice ho; rw [HLR.out] at e6; subst e6; obtain ⟨g6, e6, hg6⟩ := R_addr ho HJR.out; subst e6; have HO6 := Aside0.mk ho; have HG6 := Aside0.mk hg6; have HB6 := Aside0.mk hb; clear ho hb hg6)
              have hcc := Kd.R_celln (enc := Value.int .u8) (h1 := fun _ => rfl) (0 : Int) HO6.out (D : Int) hD0 (by first | (rw [HLR.out]; clear hD hA2; omega) | (clear hD hA2; omega))
              rw [Int.toNat_natCast] at hcc
              have k1 := hcc.1
              have f1 := hcc.2
              clear hcc
              go_region
              obtain ⟨X, hX⟩ : ∃ X, Go.bits .xor .u8 (rdOf 0 (recOf key (j : Int) (j : Int) V.l) (D : Int)) (2 ^ (AT % 8) % 256) = X := ⟨_, rfl⟩
              rw [hX]
              have HX : Aside0 (0 ≤ X ∧ X ≤ 255) := ⟨by rw [← hX]; exact bits_u8 _ _⟩
              obtain ⟨RL, hRL⟩ : ∃ RL, recOf key (j : Int) (j : Int) V.l = RL := ⟨_, rfl⟩
              have HYR : Aside0 (ByteL RL) := ⟨by rw [← hRL]; exact recOf_byte key _ ⟨by omega, by omega⟩ HVV.out.2.1⟩
              have HRL := Aside0.mk hRL
              have hput := Kd.R_putn (enc := Value.int .u8) (h1 := fun _ => rfl) HO6.out (D : Int) X
              rw [Int.toNat_natCast] at hput
              rw [hRL] at HO5 HLR hput
              have HLW : Aside0 ((RL.set D X).length = V.m + 11) := ⟨by rw [List.length_set, HLR.out]⟩
              have HYW : Aside0 (ByteL (RL.set D X)) := ⟨byteL_set HYR.out D HX.out⟩
              obtain ⟨W7, hW7⟩ : ∃ W7, (w6.setCell ⟨g6, D, none⟩ (.int .u8 X)).drew = W7 := ⟨_, rfl⟩
              have HB7x : Aside0 (Below w5.heap.size w5 W7) := ⟨by rw [← hW7]; exact below_drew (below_set HB6.out HG6.out)⟩
              have HW7 : Aside0 (Kd.R (Kd.int .u8) 5 W7 w5.heap.size (fun _ => True) (.slice (some ⟨g6, 0, none⟩) (V.m + 11) c6) (RL.set D X)) := ⟨by rw [← hW7]; exact Kd.R_drew hput⟩
              rw [hW7]
              have HNE : Aside0 (g3 ≠ g ∧ g4 ≠ g ∧ g3 ≠ g4 ∧ g ≠ g3 ∧ g ≠ g4 ∧ w.heap.size ≠ g ∧ w.heap.size ≠ g3 ∧ w.heap.size ≠ g4 ∧ w.heap.size ≤ g ∧ w.heap.size ≤ g3 ∧ w.heap.size ≤ g4) := ⟨by have := HGG.out; omega⟩
              have HB7 : Aside0 (Below w.heap.size w W7) := ⟨HB5.out.trans (HB7x.out.mono HB5.out.size)⟩
              have HSa7 := Aside0.mk (HS5.out.below HB7x.out)
              have HSb7 := Aside0.mk ((HSb.out.other HSa.out.1 (by decide) HM5.out HNE.out.1).below HB7x.out)
              have HSc7 := Aside0.mk ((HSc.out.other HSa.out.1 (by decide) HM5.out HNE.out.2.1).below HB7x.out)
              have HR7 := Aside0.mk (Kd.C_below (R_at HO5.out).1 HB7x.out)
              have HC5 : Aside0 (V.m + 11 ≤ c5) := ⟨(R_at HO5.out).2⟩
              have HC6 : Aside0 (V.m + 11 ≤ c6) := ⟨(R_at HW7.out).2⟩
              have HB07 := Aside0.mk (Kd.C_below (C_moved HSa.out HM5.out HRb.out.2.1 HRb.out.1) HB7x.out)
              have HBX7 := Aside0.mk (blk_below HBX5.out HB7x.out)
              have HM11 : Aside0 (V.m + 11 ≤ 140737488351232 ∧ mb ≤ 140737488351232 ∧ V.m + 11 ≤ 1000) := ⟨by have := HRb.out.2.2.2.2; omega⟩
              have HBB : Aside0 (lb.length = mb ∧ ByteL lb ∧ mb ≤ cb) := ⟨HRb.out.2.1, HRb.out.2.2.1, HRb.out.2.2.2.1⟩
              obtain ⟨n1, hn1⟩ : ∃ n1, (readA key j (RL.set D X)).2 = n1 := ⟨_, rfl⟩
              obtain ⟨n2, hn2⟩ : ∃ n2, (readA key n1 lb).2 = n2 := ⟨_, rfl⟩
              have e1 : n1 = j ∨ n1 = (j : Int) + 1 := by rw [← hn1]; exact readA_num _ _ _
              have e2 : n2 = n1 ∨ n2 = n1 + 1 := by rw [← hn2]; exact readA_num _ _ _
              have HN1 := Aside0.mk hn1
              have HN2 := Aside0.mk hn2
              clear hX hRL hput hW7 hn1 hn2 x0 x1 y5 y6 k1 f1 hD hD2 hD3 hD0 hA2 HSb HSc HS5 HX HO6 HG6 HB6
              by_cases hq : n2 = (j : Int)
              · obtain rfl : n1 = (j : Int) := by omega
                subst hq
                clear e1 e2
                go_upto_region 29 with (first
                  | (go_at_call 21; (with_reducible refine (refused.calls g3 A3 c3 g4 A4 c4 key j (some ⟨g6, 0, none⟩) c6 (V.m + 11) (RL.set D X) W7 HSb7.out HSc7.out HNE.out.2.2.1 HM11.out.1 HLW.out HYW.out (R_at HW7.out).1 HC6.out).mono ?_); rw [HN1.out]; rintro e w8 ⟨rfl, hs, ht, hm⟩; have HSb8 := Aside0.mk hs; have HSc8 := Aside0.mk ht; have HM8 := Aside0.mk hm; have HB8 := Aside0.mk (Moved2.all HB7.out hm HNE.out.2.2.2.2.2.2.2.2.2.1 HNE.out.2.2.2.2.2.2.2.2.2.2); have HB08 := Aside0.mk (C_moved2 HSb7.out HSc7.out HNE.out.2.2.1 hm HBB.out.1 HB07.out); clear hs ht hm)
                  | (go_at_call 21; (with_reducible refine (refused.calls g3 A3 c3 g4 A4 c4 key j Ab cb mb lb w8 HSb8.out HSc8.out HNE.out.2.2.1 HM11.out.2.1 HBB.out.1 HBB.out.2.1 HB08.out HBB.out.2.2).mono ?_); rw [HN2.out]; rintro e w9 ⟨rfl, hs, ht, hm⟩; have HSb9 := Aside0.mk hs; have HSc9 := Aside0.mk ht; have HM9 := Aside0.mk hm; have HB9 := Aside0.mk (Moved2.all HB8.out hm HNE.out.2.2.2.2.2.2.2.2.2.1 HNE.out.2.2.2.2.2.2.2.2.2.2); clear hs ht hm)
                  | (go_at_call 22; (with_reducible refine (rNumber.calls g4 A4 c4 key j _ HSc9.out).mono ?_); rintro e w10 ⟨rfl, rfl⟩))
                have HSa8 := Aside0.mk (Sess.other2 HSa7.out HSb7.out HSc7.out HNE.out.2.2.1 HM8.out HNE.out.2.2.2.1 HNE.out.2.2.2.2.1)
                have HSa9 := Aside0.mk (Sess.other2 HSa8.out HSb8.out HSc8.out HNE.out.2.2.1 HM9.out HNE.out.2.2.2.1 HNE.out.2.2.2.2.1)
                have HR9 := Aside0.mk (C_moved2 HSb8.out HSc8.out HNE.out.2.2.1 HM9.out HLR.out (C_moved2 HSb7.out HSc7.out HNE.out.2.2.1 HM8.out HLR.out HR7.out))
                have HBX9 := Aside0.mk (HM9.out.blk (HM8.out.blk HBX7.out HNE.out.2.2.2.2.2.2.1 HNE.out.2.2.2.2.2.2.2.1) HNE.out.2.2.2.2.2.2.1 HNE.out.2.2.2.2.2.2.2.1)
                have x1 := blk_cell HBX9.out 1
                obtain ⟨z, hz⟩ : ∃ z, (wrap64 (a2_1.tmod 60 + 60)).tmod 60 = z := ⟨_, rfl⟩
                by_cases hjz : (j : Int) = z
                · have u1 : ((j : Int) == z) = true := beq_iff_eq.2 hjz
                  have HCL : Aside0 (closeA key ((j : Int) + 1) 0 [] = ((recOf key ((j : Int) + 1) 0 [], 0), (j : Int) + 1 + 1)) := ⟨by unfold closeA; rw [if_neg (by omega), if_neg (by simp), if_neg (by omega)]⟩
                  have HLS : Aside0 ((recOf key ((j : Int) + 1) 0 []).length = 11) := ⟨recOf_length _ _ _ _⟩
                  have HYS : Aside0 (ByteL (recOf key ((j : Int) + 1) 0 [])) := ⟨recOf_byte key _ (by decide) (fun x hx => absurd hx (by simp))⟩
                  have HCN : Aside0 (Kd.C (Kd.int .u8) w9 none 0 []) := ⟨(R_at (Kd.R_nil (Kd.int .u8) 5 w9 0 (fun _ => True))).1⟩
                  have HYN : Aside0 (ByteL []) := ⟨fun x hx => absurd hx (by simp)⟩
                  clear hjz
                  go_wp2_with (first
                    | (go_at_call 20; (with_reducible refine (kClose.calls g A2 c2 key ((j : Int) + 1) 0 none 0 0 [] w9 HSa9.out (by decide) rfl HYN.out HCN.out (Nat.le_refl _)).mono ?_); rw [HCL.out]; rintro e w11 ⟨v11, rfl, ho, hs, hmv⟩; obtain ⟨A11, c11, e11⟩ := Kd.R_slice ho; rw [HLS.out] at e11; subst e11; have HO11 := Aside0.mk (R_at ho); have HSb11 := Aside0.mk (HSb9.out.other HSa9.out.1 (by decide) hmv HNE.out.1); have HSc11 := Aside0.mk (HSc9.out.other HSa9.out.1 (by decide) hmv HNE.out.2.1); have HB11 := Aside0.mk (Moved.all HB9.out hmv HNE.out.2.2.2.2.2.2.2.2.1); clear ho hs hmv)
                    | (go_at_call 21; (with_reducible refine (refused.calls g3 A3 c3 g4 A4 c4 key j A11 c11 11 (recOf key ((j : Int) + 1) 0 []) w11 HSb11.out HSc11.out HNE.out.2.2.1 (by decide) HLS.out HYS.out HO11.out.1 HO11.out.2).mono ?_); rintro e w12 ⟨rfl, hs, ht, hm⟩; have HB12 := Aside0.mk (Moved2.all HB11.out hm HNE.out.2.2.2.2.2.2.2.2.2.1 HNE.out.2.2.2.2.2.2.2.2.2.2); clear hs ht hm)
                    | (go_at_call 9; (with_reducible refine (wireglasslaw21_known.calls true _ rfl).mono ?_); rintro e wk ⟨rfl, hb⟩; have HBK9 := Aside0.mk hb; clear hb))
                  go_ret
                  exact ⟨rfl, HB12.out.trans (HBK9.out.mono HB12.out.size)⟩
                · have u1 : ((j : Int) == z) = false := beq_eq_false_iff_ne.2 hjz
                  clear hjz
                  have HLT : Aside0 ((RL ++ [1, 2, 3]).length = V.m + 14) := ⟨by rw [List.length_append, HLR.out]; rfl⟩
                  have HYT : Aside0 (ByteL (RL ++ [1, 2, 3])) := ⟨byteL_append HYR.out (fun x hx => by simp only [List.mem_cons, List.not_mem_nil, or_false] at hx; omega)⟩
                  have HRA : Aside0 (readA key j (RL ++ [1, 2, 3]) = (((j : Int), V.l, (V.m : Int) + 11, 0), (j : Int) + 1)) := ⟨by rw [← HRL.out, readA_rec key j j _ HVV.out.2.1 (by rw [HVV.out.1]; omega) (by omega), HVV.out.1]⟩
                  have HRB : Aside0 (readA key j RL = (((j : Int), V.l, (V.m : Int) + 11, 0), (j : Int) + 1)) := ⟨by have h := readA_rec key j j [] HVV.out.2.1 (by rw [HVV.out.1]; omega) (by omega); rw [List.append_nil, HVV.out.1, HRL.out] at h; exact h⟩
                  have HM14 : Aside0 (V.m + 14 ≤ 140737488351232) := ⟨by omega⟩
                  go_upto_region 32 with (fail)
                  clear hz x1
                  go_upto_region 34 with (first
                    | ((with_reducible refine gate_builtin (b := .append) (xs := #[.const (.slice none 0 0), .tmp 180]) rfl ?_); at_builtin; refine Kd.R_append_rows (Kd.int .u8) (w0 := w9) w9.heap.size rfl (.const (.slice none 0 0)) (.tmp 180) 22 5 (.int .u8 0) 1 rfl Try.underlying22 info5 rfl (by decide) (by omega) _ [] RL (some ⟨g5, 0, none⟩) (V.m + 11) c5 (fun _ => True) (fun _ => False) rfl rfl (Kd.R_nil _ _ _ _ _) HR9.out (fun _ _ h => h) (fun _ h => h.elim) (fun _ _ => trivial) (Below.refl _ _) ?aS ?aL ?_; (case aS => exact Nat.le_refl _); (case aL => simp only [List.length_nil]; omega); intro v12 w12 ho hb _ _; rw [List.nil_append] at ho; obtain ⟨A12, c12, e12⟩ := Kd.R_slice ho; rw [HLR.out] at e12; subst e12; have HO12 := Aside0.mk ho; have HB12 := Aside0.mk hb; clear ho hb)
                    | ((with_reducible refine gate_builtin (b := .append) (xs := #[.tmp 181, .tmp 182]) rfl ?_); at_builtin; refine Kd.R_append_rows (Kd.int .u8) (w0 := w9) w9.heap.size rfl (.tmp 181) (.tmp 182) 22 5 (.int .u8 0) 1 rfl Try.underlying22 info5 rfl (by decide) (by omega) _ RL [1, 2, 3] (some ⟨w12.heap.size, 0, none⟩) 3 3 (fun _ => True) (fun _ => False) rfl rfl (Kd.R_below HO12.out (below_alloc (Below.refl _ _) _)) (R_at (lit_R w12 w9.heap.size [1, 2, 3] HB12.out.size (by decide))).1 (fun _ _ h => h) (fun _ h => h.elim) (fun _ _ => trivial) (below_alloc HB12.out _) ?aS ?aL ?_; (case aS => have := HB12.out.size; simp; omega); (case aL => rw [HLR.out]; omega); intro v13 w13 ho hb _ _; obtain ⟨A13, c13, e13⟩ := Kd.R_slice ho; rw [HLT.out] at e13; subst e13; have HO13 := Aside0.mk (R_at ho); have HSb13 := Aside0.mk (HSb9.out.below hb); have HSc13 := Aside0.mk (HSc9.out.below hb); have HSa13 := Aside0.mk (HSa9.out.below hb); have HR13 := Aside0.mk (Kd.C_below HR9.out hb); have HBX13 := Aside0.mk (blk_below HBX9.out hb); have HB13 := Aside0.mk (HB9.out.trans (hb.mono HB9.out.size)); clear ho hb)
                    | (go_at_call 23; (with_reducible refine (kRead.calls g3 A3 c3 key j A13 c13 (V.m + 14) (RL ++ [1, 2, 3]) w13 HSb13.out HM14.out HLT.out HYT.out HO13.out.1 HO13.out.2).mono ?_); rw [HRA.out]; rintro e w14 ⟨A14, c14, co14, rfl, hl, ho, hs, hmv⟩; have HO14 := Aside0.mk (R_at ho).1; have HSb14 := Aside0.mk hs; have HM14b := Aside0.mk hmv; have HSc14 := Aside0.mk (HSc13.out.other HSb13.out.1 (by decide) hmv (fun h => HNE.out.2.2.1 h.symm)); have HSa14 := Aside0.mk (HSa13.out.other HSb13.out.1 (by decide) hmv HNE.out.2.2.2.1); have HR14 := Aside0.mk (C_moved HSb13.out hmv HLR.out HR13.out); clear hl ho hs hmv)
                    | (go_at_call 24; (with_reducible refine (rRead.calls g4 A4 c4 key j (some ⟨g5, 0, none⟩) c5 (V.m + 11) RL w14 HSc14.out HM11.out.1 HLR.out HYR.out HR14.out HC5.out).mono ?_); rw [HRB.out]; rintro e w15 ⟨A15, c15, co15, rfl, hl, ho, hs, hmv⟩; have HSc15 := Aside0.mk hs; have HM15 := Aside0.mk hmv; clear hl ho hs hmv))
                  have HB15 : Aside0 (Below w.heap.size w w15) := ⟨Moved.all (Moved.all HB13.out HM14b.out HNE.out.2.2.2.2.2.2.2.2.2.1) HM15.out HNE.out.2.2.2.2.2.2.2.2.2.2⟩
                  have y7 := (HV.out.below HB15.out).1
                  have HC15 := Aside0.mk (HV.out.below HB15.out).2.1
                  have HD15 := Aside0.mk (C_moved HSc14.out HM15.out rfl HO14.out)
                  have s3 := fun k => Kd.C_string (P := Try.prog) (c := c14) Try.underlying22 Try.underlying5 Try.underlying9 (Kd.C_drewN HD15.out k)
                  have s4 := fun k => Kd.C_string (P := Try.prog) (c := V.cp) Try.underlying22 Try.underlying5 Try.underlying9 (Kd.C_drewN HC15.out k)
                  have s5 := Kd.C_string (P := Try.prog) (c := c14) Try.underlying22 Try.underlying5 Try.underlying9 HD15.out
                  have s6 := Kd.C_string (P := Try.prog) (c := V.cp) Try.underlying22 Try.underlying5 Try.underlying9 HC15.out
                  go_quiet (fail)
                  have HSa16 : Aside0 (Sess 71 (w15.drewN nq) g A2 c2 key ((j : Int) + 1)) := ⟨(HSa14.out.other HSc14.out.1 (by decide) HM15.out HNE.out.2.2.2.2.1).drewN nq⟩
                  have HSb16 : Aside0 (Sess 71 (w15.drewN nq) g3 A3 c3 key ((j : Int) + 1)) := ⟨(HSb14.out.other HSc14.out.1 (by decide) HM15.out HNE.out.2.2.1).drewN nq⟩
                  have HSc16 : Aside0 (Sess 73 (w15.drewN nq) g4 A4 c4 key ((j : Int) + 1)) := ⟨HSc15.out.drewN nq⟩
                  have HB16 : Aside0 (Below w.heap.size w (w15.drewN nq)) := ⟨pw_below_drewN HB15.out nq⟩
                  have HBX16 : Aside0 ((w15.drewN nq).heap[w.heap.size]? = some (.cells #[.int .i64 a2_0, .int .i64 a2_1] 23 (0, 0))) := ⟨HM15.out.2.blk (HM14b.out.2.blk HBX13.out HNE.out.2.2.2.2.2.2.1 (by simp)) HNE.out.2.2.2.2.2.2.2.1 (by simp)⟩
                  have HR16 : Aside0 (Kd.C (Kd.int .u8) (w15.drewN nq) (some ⟨g5, 0, none⟩) (V.m + 11) RL ∧ RL.length = V.m + 11 ∧ ByteL RL ∧ V.m + 11 ≤ c5 ∧ V.m + 11 ≤ 1000) := ⟨Kd.C_drewN (C_moved HSc14.out HM15.out HLR.out HR14.out) nq, HLR.out, HYR.out, HC5.out, HM11.out.2.2⟩
                  clear y7 s3 s4 s5 s6
                  go_wp2
                  go_roundg q
                  case measure => omega
                  case rel => exact ⟨j + 1, _, _, _, _, by simp, rfl, by omega, HSa16, HSb16, HSc16, HB16, HBX16, HR16⟩
              · have u1 : (n2 == (j : Int)) = false := beq_eq_false_iff_ne.2 hq
                have u2 : (n2 != (j : Int)) = true := bne_iff_ne.2 hq
                clear e1 e2 hq
                go_wp2_with (first
                  | (go_at_call 21; (with_reducible refine (refused.calls g3 A3 c3 g4 A4 c4 key j (some ⟨g6, 0, none⟩) c6 (V.m + 11) (RL.set D X) W7 HSb7.out HSc7.out HNE.out.2.2.1 HM11.out.1 HLW.out HYW.out (R_at HW7.out).1 HC6.out).mono ?_); rw [HN1.out]; rintro e w8 ⟨rfl, hs, ht, hm⟩; have HSb8 := Aside0.mk hs; have HSc8 := Aside0.mk ht; have HM8 := Aside0.mk hm; have HB8 := Aside0.mk (Moved2.all HB7.out hm HNE.out.2.2.2.2.2.2.2.2.2.1 HNE.out.2.2.2.2.2.2.2.2.2.2); have HB08 := Aside0.mk (C_moved2 HSb7.out HSc7.out HNE.out.2.2.1 hm HBB.out.1 HB07.out); clear hs ht hm)
                  | (go_at_call 21; (with_reducible refine (refused.calls g3 A3 c3 g4 A4 c4 key n1 Ab cb mb lb w8 HSb8.out HSc8.out HNE.out.2.2.1 HM11.out.2.1 HBB.out.1 HBB.out.2.1 HB08.out HBB.out.2.2).mono ?_); rw [HN2.out]; rintro e w9 ⟨rfl, hs, ht, hm⟩; have HSb9 := Aside0.mk hs; have HSc9 := Aside0.mk ht; have HM9 := Aside0.mk hm; have HB9 := Aside0.mk (Moved2.all HB8.out hm HNE.out.2.2.2.2.2.2.2.2.2.1 HNE.out.2.2.2.2.2.2.2.2.2.2); clear hs ht hm)
                  | (go_at_call 22; (with_reducible refine (rNumber.calls g4 A4 c4 key n2 _ HSc9.out).mono ?_); rintro e w10 ⟨rfl, rfl⟩)
                  | (go_at_call 9; (with_reducible refine (wireglasslaw21_known.calls true _ rfl).mono ?_); rintro e wk ⟨rfl, hb⟩; have HBK9 := Aside0.mk hb; clear hb))
                go_ret
                exact ⟨rfl, HB9.out.trans (HBK9.out.mono HB9.out.size)⟩
          · have ej : j = i := by omega
            subst ej
            go_wp2_with (go_at_call 9; (with_reducible refine (wireglasslaw21_known.calls true _ rfl).mono ?_); rintro e wk ⟨rfl, hb⟩; have HBK9 := Aside0.mk hb; clear hb)
            go_ret
            exact ⟨rfl, HBw.out.trans (HBK9.out.mono HBw.out.size)⟩
      · have n1 : ((m0 : Int) == 32) = false := beq_eq_false_iff_ne.2 (by omega)
        have n2 : ((m0 : Int) != 32) = true := bne_iff_ne.2 (by omega)
        clear h32
        go_wp2_with (go_at_call 9; (with_reducible refine (wireglasslaw21_known.calls true _ rfl).mono ?_); rintro e wk ⟨rfl, hb⟩; have HBK9 := Aside0.mk hb; clear hb)
        go_ret
        exact ⟨rfl, HB1.out.trans (HBK9.out.mono HB1.out.size)⟩
end Go.Proofs.Ytpkmfaloncclaaa.T
