/- Where matches end: the walk. Conditions: as each theorem says. -/
import Derived.Test.YtclgnefeankbgaaM38
namespace Go.Proofs.Ytclgnefeankbgaa.M
open Go Go.RowKit Go.Proofs.YtclgnefeankbgaaW.PrintWords Go.Proofs.YtclgnefeankbgaaW.PrintLast Go.Proofs.YtclgnefeankbgaaW.PrintMore Hand
attribute [local go_sem] Oper.semAt_some max2_int min2_int max_two min_two max_three min_three max_four min_four
set_option linter.unusedVariables false
set_option linter.unusedSimpArgs false
set_option maxHeartbeats 16000000 in
set_option maxRecDepth 100000 in
theorem ends.calls (pp : Nat) (s : ByteArray) (z : Int) (xs : List ST) (bk : Option Nat) (A : Option Addr) (c : Nat) (bs : List Int) (from_ : Nat) (W : World) (hps : PS W pp s z xs bk) (hC : Kd.C (Kd.int .u8) W A bs.length bs) (hbs : ∀ x ∈ bs, 0 ≤ x ∧ x ≤ 255) (hbl : bs.length ≤ 1000000) (hf : from_ ≤ bs.length) (hlen : xs.length ≤ 1204) (hwf : Nn xs) :
    Calls Try.prog 38 #[.pointer (some ⟨pp, 0, none⟩), .slice A bs.length c, .int .i64 (from_ : Int)] W fun e w' => ∃ v, e = .returned v ∧ Kd.R (Kd.int .i64) 3 w' W.heap.size (fun _ => True) v (endsP xs bs from_) ∧ Below W.heap.size W w' := by
  obtain ⟨N, hN⟩ : ∃ N, bs.length = N := ⟨_, rfl⟩
  obtain ⟨E, hE⟩ : ∃ E, endsP xs bs from_ = E := ⟨_, rfl⟩
  rw [hE]
  unfold endsP at hE
  obtain ⟨⟨r0, c0⟩, hR0⟩ : ∃ R, reachF xs from_ bs.length 1205 set0 0 = R := ⟨_, rfl⟩
  rw [hR0] at hE
  simp only at hE
  have hcl := (reachF_unset xs from_ bs.length 1205 set0 0).2
  rw [hR0, set0_len] at hcl
  have HRE : Aside0 (∀ (at_ k' g : Nat) (c : List Bool) (w : World), g ≠ pp → bk ≠ some g → PS w pp s z xs bk → BAt w g c → c.length = 1204 → Calls Try.prog 56 #[.pointer (some ⟨pp, 0, none⟩), .pointer (some ⟨g, 0, none⟩), .int .i64 (k' : Int), .int .i64 (at_ : Int), .int .i64 (bs.length : Int)] w fun e w' => e = .returned (.bool (reachF xs at_ bs.length 1205 c k').1) ∧ BAt w' g (reachF xs at_ bs.length 1205 c k').2 ∧ Mv g w w') := ⟨fun at_ k' g c w h1 h2 h3 h4 h5 => reach.calls pp g s z xs bk at_ bs.length h1 h2 hlen hwf 1205 c k' w h3 h4 h5 (by have := unset_le c; omega)⟩
  have hre0 : ∀ (g : Nat) (w : World), g ≠ pp → bk ≠ some g → PS w pp s z xs bk → BAt w g set0 → Calls Try.prog 56 #[.pointer (some ⟨pp, 0, none⟩), .pointer (some ⟨g, 0, none⟩), .int .i64 0, .int .i64 (from_ : Int), .int .i64 (N : Int)] w fun e w' => e = .returned (.bool r0) ∧ BAt w' g c0 ∧ Mv g w w' := fun g w h1 h2 h3 h4 => by
    have := HRE.out from_ 0 g set0 w h1 h2 h3 h4 set0_len
    rw [hR0, hN] at this
    exact this
  have HRE0 := Aside0.mk hre0
  have hew : ∀ (g : Nat) (w : World), g = W.heap.size → BAt w g set0 → Below W.heap.size W w → EW W w pp s z xs bk A bs g set0 (.slice none 0 0) [] := fun g w h1 h2 h3 => ⟨hps.call h3, h2, h3, by omega, Kd.R_nil _ _ _ _ _, hC, hps.lt, fun k hk => hps.blt hk⟩
  have HEW := Aside0.mk hew
  have HCL := Aside0.mk hcl
  have HBS := Aside0.mk hbs
  have HXL : Aside0 (xs.length ≤ 1204) := ⟨hlen⟩
  have HNN := Aside0.mk hN
  rw [hN] at hE hbl hf ⊢
  have hNf : N - from_ ≤ N := Nat.sub_le _ _
  have HFN : Aside0 (from_ + (N - from_) = N) := ⟨by omega⟩
  clear hwf hps hC hbs hcl hR0 hew hre0 hN hlen hf hNf
  cases r0
  all_goals simp only [Bool.false_eq_true, if_false, if_true] at hE
  all_goals (
    have HE0 := Aside0.mk hE
    clear hE
    go_enter Try.func38, Try.ntmps38
    go_upto_region 5 with (first
      | ((with_reducible refine gate_builtin (b := .append) (xs := #[.tmp 20, .tmp 22]) rfl ?_); at_builtin; refine Kd.R_append (Kd.int .i64) (w0 := W) W.heap.size rfl (.tmp 20) (.tmp 22) 30 3 (.int .i64 0) 8 rfl Try.underlying30 int_info rfl (by decide) (by omega) (.slice none 0 0) [] (from_ : Int) [.int .i64 (from_ : Int)] (fun _ => True) (fun _ => False) rfl rfl rfl (fun _ hk => hk.elim) (fun _ _ => trivial) HE2.out.row HE2.out.hb HE2.out.hb.size ?aL ?_; (case aL => simp); intro v1 w3 ho hb hg hat; obtain ⟨ao, co, rfl⟩ := Kd.R_slice ho; have HE3 := Aside0.mk (HE2.out.app ho hb hg); have HL3 : Aside0 (([] ++ [(from_ : Int)]).length ≤ from_ + 1) := ⟨by simp⟩; clear ho hb hg hat)
      | (go_at_call 56; (with_reducible refine (HRE0.out g _ HE1.out.gp.1 HE1.out.gp.2 HE1.out.ps HE1.out.bt).mono ?_); rintro e w2 ⟨rfl, hb, hm⟩; have HE2 := Aside0.mk (HE1.out.set hb hm); have HL2 : Aside0 (([] : List Int).length ≤ from_ + 1) := ⟨by simp⟩; clear hb hm)
      | ((with_reducible refine gate_alloc (t := 111) (d := 8) rfl rfl ?_); refine alloc_set rfl rfl rfl ?_; intro g w1 hg1 hc1 hb1; have HE1 := Aside0.mk (HEW.out g w1 hg1 hc1 hb1); clear hg1 hc1 hb1))
    first
      | (have HE5 := HE3; have HL5 := HL3)
      | (have HE5 := HE2; have HL5 := HL2)
    go_wp2
    go_loopg [7, 9] (N - from_) (fun kq v7 v9 w' => ∃ (at_ : Nat) (now : List Bool) (ao : Option Addr) (co : Nat) (out : List Int), v7 = .slice ao out.length co ∧ v9 = .int .i64 (at_ : Int) ∧ at_ + kq = N ∧ now.length = 1204 ∧ out.length ≤ at_ + 1 ∧ Aside0 (endsF xs bs kq at_ now out = E) ∧ Aside0 (EW W w' pp s z xs bk A bs g now (.slice ao out.length co) out)))
  all_goals try (case atStart => exact ⟨from_, c0, _, _, _, rfl, rfl, HFN.out, HCL.out, HL5.out, HE0, HE5⟩)
  all_goals (
    case round =>
      clear HL5 HE0 HE5 HFN HCL HL2 HE2
      (try clear HL3 HE3)
      obtain ⟨at_, now, ao, co, out, rfl, rfl, hin, hnl, hol, HB0, HE⟩ := hrel
      cases gk with
      | zero =>
        have d1 : decide ((at_ : Int) < (N : Int)) = false := decide_eq_false (by omega)
        have d2 : decide (at_ < N) = false := decide_eq_false (by omega)
        have hb : out = E := HB0.out
        have HBB := Aside0.mk hb
        clear hb hin hnl hol HB0
        go_wp2
        go_ret
        exact ⟨_, rfl, by rw [← HBB.out]; exact HE.out.row, HE.out.hb⟩
      | succ n =>
        have hatN : at_ < N := by omega
        have d1 : decide ((at_ : Int) < (N : Int)) = true := decide_eq_true (by omega)
        have d2 : decide (at_ < N) = true := decide_eq_true hatN
        have a0 : (0 : Int) ≤ (at_ : Int) := by omega
        have a1 : (at_ : Int) < (N : Int) := by omega
        have wa : IntKind.i64.wrap ((at_ : Int) + 1) = (at_ : Int) + 1 := by rw [IntKind.wrap_i64]; omega
        obtain ⟨M, hM⟩ : ∃ M, xs.length = M := ⟨_, rfl⟩
        have HMM := Aside0.mk hM
        obtain ⟨x, hx⟩ : ∃ x, bs.getD at_ 0 = x := ⟨_, rfl⟩
        have hx01 : 0 ≤ x ∧ x ≤ 255 := by
          rw [← hx, List.getD_eq_getElem?_getD, List.getElem?_eq_getElem (by rw [HNN.out]; exact hatN)]
          exact HBS.out _ (List.getElem_mem _)
        obtain ⟨ad, hA, _⟩ := HE.out.byte (i := at_) (by rw [HNN.out]; exact hatN)
        obtain ⟨T, hT⟩ : ∃ T, sweepF xs x (at_ + 1) bs.length now xs 0 false false set0 = T := ⟨_, rfl⟩
        have hb := HB0.out
        rw [endsF, hx, hT] at hb
        have HB1 := Aside0.mk hb
        have HT0 := Aside0.mk hT
        have HX := Aside0.mk hx
        have HX01 := Aside0.mk hx01
        have HNL := Aside0.mk hnl
        have HOL := Aside0.mk hol
        have HAT : Aside0 (at_ < N ∧ at_ + (n + 1) = N) := ⟨hatN, hin⟩
        have hnl6 : N ≤ 1000000 := hbl
        clear hb hT hx hx01 HB0 hM hnl hol hin
        subst hA
        go_wp2_with ((with_reducible refine gate_alloc (t := 111) (d := 10) rfl rfl ?_); refine alloc_set rfl rfl rfl ?_; intro h w1 hg1 hc1 hb1; have HE1 := Aside0.mk (And.intro (HE.out.call hb1) hc1); have HGH : Aside0 (h ≠ g ∧ W.heap.size ≤ h ∧ h ≠ pp ∧ bk ≠ some h) := ⟨by have := blk_lt HE.out.bt; omega, by have := HE.out.hb.size; omega, by have := HE.out.pl; have := HE.out.hb.size; omega, fun e => by have := HE.out.bl h e; have := HE.out.hb.size; omega⟩; obtain ⟨cap, k2⟩ := HE1.out.1.ps.k2; rw [HMM.out] at k2; clear hg1 hc1 hb1)
        go_loopg [11, 12, 36] M (fun kq v11 v12 v36 w' => ∃ (k : Nat) (so is : Bool) (nx : List Bool), v11 = .bool so ∧ v12 = .bool is ∧ v36 = .int .i64 (k : Int) ∧ k + kq = M ∧ nx.length = 1204 ∧ Aside0 (sweepF xs x (at_ + 1) bs.length now (xs.drop k) k so is nx = T) ∧ Aside0 (EW W w' pp s z xs bk (some ad) bs g now (.slice ao out.length co) out ∧ BAt w' h nx))
        case atStart => exact ⟨0, false, false, set0, rfl, rfl, rfl, by omega, set0_len, HT0, HE1⟩
        case round =>
          clear HT0 HE1 k2
          obtain ⟨k, so, is, nx, rfl, rfl, rfl, hkm, hxl, HT1, HEV⟩ := hrel
          cases gk with
          | zero =>
            have d3 : decide ((k : Int) < (M : Int)) = false := decide_eq_false (by omega)
            have d4 : decide (k < M) = false := decide_eq_false (by omega)
            have ht := HT1.out
            rw [List.drop_of_length_le (by rw [HMM.out]; omega), sweepF] at ht
            have hb := HB1.out
            rw [← ht] at hb
            have HXL2 := Aside0.mk hxl
            clear ht hkm HT1 hxl
            cases so with
            | false =>
              have hb2 : out = E := hb
              have HBB := Aside0.mk hb2
              clear hb hb2
              go_wp2
              go_ret
              exact ⟨_, rfl, by rw [← HBB.out]; exact HEV.out.1.row, HEV.out.1.hb⟩
            | true =>
              cases is with
              | false =>
                have hb2 : endsF xs bs n (at_ + 1) nx out = E := hb
                have HBB := Aside0.mk hb2
                clear hb hb2
                go_wp2_with (first
                  | ((with_reducible refine gate_storeT (t := 111) (p := 8) rfl ?_); refine store_set rfl 8 _ rfl _ rfl now nx HNL.out HXL2.out rfl HEV.out.1.bt ?_; intro w5 hc hm; have HE5 := Aside0.mk (HEV.out.1.set hc hm); clear hc hm)
                  | ((with_reducible refine gate_load (t := 111) (p := 10) rfl ?_); refine load_set rfl 10 rfl _ rfl nx HXL2.out HEV.out.2 ?_))
                go_roundg n
                case measure => omega
                case rel => exact ⟨at_ + 1, nx, ao, co, out, rfl, rfl, by have := HAT.out; omega, HXL2.out, by have := HOL.out; omega, HBB, HE5⟩
              | true =>
                have hb2 : endsF xs bs n (at_ + 1) nx (out ++ [(at_ : Int) + 1]) = E := hb
                have HBB := Aside0.mk hb2
                clear hb hb2
                go_wp2_with (first
                  | ((with_reducible refine gate_storeT (t := 111) (p := 8) rfl ?_); refine store_set rfl 8 _ rfl _ rfl now nx HNL.out HXL2.out rfl HE4.out.1.bt ?_; intro w5 hc hm; have HE5 := Aside0.mk (HE4.out.1.set hc hm); clear hc hm)
                  | ((with_reducible refine gate_load (t := 111) (p := 10) rfl ?_); refine load_set rfl 10 rfl _ rfl nx HXL2.out HE4.out.2 ?_)
                  | ((with_reducible refine gate_builtin (b := .append) (xs := #[.tmp 70, .tmp 73]) rfl ?_); at_builtin; refine Kd.R_append (Kd.int .i64) (w0 := W) W.heap.size rfl (.tmp 70) (.tmp 73) 30 3 (.int .i64 0) 8 rfl Try.underlying30 int_info rfl (by decide) (by omega) (.slice ao out.length co) out ((at_ : Int) + 1) [.int .i64 ((at_ : Int) + 1)] (fun _ => True) (fun _ => False) rfl rfl rfl (fun _ hk => hk.elim) (fun _ _ => trivial) HEV.out.1.row HEV.out.1.hb HEV.out.1.hb.size ?aL ?_; (case aL => have := HOL.out; omega); intro v1 w4 ho hb hg hat; obtain ⟨a9, c9, rfl⟩ := Kd.R_slice ho; have HE4 := Aside0.mk (And.intro (HEV.out.1.app ho hb hg) (HEV.out.1.far HEV.out.2 hg)); clear ho hb hg hat))
                go_roundg n
                case measure => omega
                case rel => exact ⟨at_ + 1, nx, a9, c9, out ++ [(at_ : Int) + 1], by rw [List.length_append]; rfl, rfl, by have := HAT.out; omega, HXL2.out, by have := HOL.out; simp; omega, HBB, HE5⟩
          | succ q =>
            have hkM : k < M := by omega
            have d3 : decide ((k : Int) < (M : Int)) = true := decide_eq_true (by omega)
            have d4 : decide (k < M) = true := decide_eq_true hkM
            have k0 : (0 : Int) ≤ (k : Int) := by omega
            have k1 : (k : Int) < (M : Int) := by omega
            have hk4 : k < 1204 := by have := HXL.out; rw [HMM.out] at this; omega
            have k3 : (k : Int) < 1204 := by omega
            have w2 : IntKind.i64.wrap ((k : Int) + 1) = (k : Int) + 1 := by rw [IntKind.wrap_i64]; omega
            obtain ⟨u, hu⟩ : ∃ u, xs[k]? = some u := ⟨_, List.getElem?_eq_getElem (by rw [HMM.out]; exact hkM)⟩
            obtain ⟨nb, hnb⟩ : ∃ b, now[k]? = some b := ⟨_, List.getElem?_eq_getElem (by rw [HNL.out]; exact hk4)⟩
            have HNB := Aside0.mk hnb
            have hgd : now.getD k false = nb := by rw [List.getD_eq_getElem?_getD, hnb]; rfl
            obtain ⟨sb, cap2, hsb, _, hcs⟩ := HEV.out.1.ps.at_ hu
            have HCS := Aside0.mk hcs
            have hdrop : xs.drop k = u :: xs.drop (k + 1) := by
              rw [List.drop_eq_getElem_cons (by rw [HMM.out]; exact hkM)]
              have : xs[k]'(by rw [HMM.out]; exact hkM) = u := (List.getElem?_eq_some_iff.1 hu).2
              rw [this]
            have ht := HT1.out
            rw [hdrop, sweepF, hgd] at ht
            have hmq : k + 1 + q = M := by omega
            have HMQ := Aside0.mk hmq
            have HXL2 := Aside0.mk hxl
            clear hu hnb hgd hcs hdrop HT1 hkm hmq hxl
            subst hsb
            by_cases cn : nb = true ∧ u.op = 0
            · obtain ⟨rfl, cu⟩ := cn
              obtain ⟨t, hts⟩ : ∃ t, hasC u.c x = t := ⟨_, rfl⟩
              rw [hts] at ht
              have hha : ∀ W', Calls Try.prog 57 #[.agg #[.int .u64 u.c.a, .int .u64 u.c.b, .int .u64 u.c.c, .int .u64 u.c.d], .int .u8 x] W' fun e w' => e = .returned (.bool t) ∧ Below W'.heap.size W' w' := fun W' => by rw [← hts]; exact has.calls u.c x W' HX01.out.1 HX01.out.2
              have HHA := Aside0.mk hha
              clear hts hha
              have HCU := Aside0.mk cu
              obtain ⟨⟨r2, c2⟩, hR2⟩ : ∃ R, reachF xs (at_ + 1) bs.length 1205 nx (k + 1) = R := ⟨_, rfl⟩
              rw [hR2] at ht
              simp only at ht
              have HT2 := Aside0.mk ht
              have hre : ∀ (w : World), PS w pp s z xs (some sb) → BAt w h nx → Calls Try.prog 56 #[.pointer (some ⟨pp, 0, none⟩), .pointer (some ⟨h, 0, none⟩), .int .i64 ((k : Int) + 1), .int .i64 ((at_ : Int) + 1), .int .i64 (N : Int)] w fun e w' => e = .returned (.bool r2) ∧ BAt w' h c2 ∧ Mv h w w' := fun w h1 h2 => by
                have := HRE.out (at_ + 1) (k + 1) h nx w HGH.out.2.2.1 HGH.out.2.2.2 h1 h2 HXL2.out
                rw [hR2, HNN.out] at this
                exact this
              have HRE2 := Aside0.mk hre
              have hcl2 := (reachF_unset xs (at_ + 1) bs.length 1205 nx (k + 1)).2
              rw [hR2, HXL2.out] at hcl2
              have HCL2 := Aside0.mk hcl2
              clear ht hR2 hre hcl2
              go_wp2_with (first
                | ((with_reducible refine gate_storeT (t := 76) (p := 14) rfl ?_); refine store_st rfl 14 _ rfl _ rfl ST.nil u rfl HV2.out.1 ?_; intro w3 hc hm; have hbl := (hm.below HV2.out.2.1 (by have := HV2.out.2.2; omega) (by have := HV2.out.2.1.size; omega)); have HE3 := Aside0.mk (HEV.out.1.call hbl); have HN3 := Aside0.mk (BAt.move hbl HEV.out.2); have kk := HE3.out.bt.cell HNB.out; have s0 := VAt.s0 hc; have s1 := VAt.s1 hc; have s2 := VAt.s2 hc; have s3 := VAt.s3 hc; have s4 := VAt.s4 hc; clear hc hm hbl)
                | ((with_reducible refine gate_alloc (t := 76) (d := 14) rfl rfl ?_); refine alloc_st rfl rfl rfl ?_; intro r w2 hg1 hc1 hb1; have HV2 : Aside0 (VAt w2 r 76 ST.nil.cells ∧ Below wr.heap.size wr w2 ∧ r = wr.heap.size) := ⟨hc1, hb1, hg1⟩; clear hg1 hc1 hb1)
                | ((with_reducible refine gate_load (t := 76) (p := 39) rfl ?_); refine load_stc rfl 39 rfl sb (k * 7) rfl u HCS.out ?_))
              have kx := (HE3.out.byte (i := at_) (by rw [HNN.out]; exact HAT.out.1))
              obtain ⟨ad2, hA2, kx⟩ := kx
              cases hA2
              rw [HX.out] at kx
              rw [cu] at s0
              have D3 := Aside0.mk (HE3.out.call (below_drew1 (Below.refl _ _)))
              have DN3 := Aside0.mk (BAt.move (below_drew1 (Below.refl _ _)) HN3.out)
              (try dsimp only [Act.put])
              go_region_law (first
                | (go_simp; go_at_call 57; (with_reducible refine (HHA.out _).mono ?_); rintro e w4 ⟨rfl, hb⟩; have HE4 := Aside0.mk (And.intro (D3.out.call hb) (BAt.move hb DN3.out)); clear hb))
              all_goals (
                have ht2 := HT2.out
                cases t with
                | false =>
                  rw [if_neg (fun h => by cases h.2.2)] at ht2
                  have HT3 := Aside0.mk ht2
                  clear ht2
                  go_wp2
                  go_roundg q
                  case measure => omega
                  case rel => exact ⟨k + 1, so, is, nx, rfl, rfl, rfl, HMQ.out, HXL2.out, HT3, HE4⟩
                | true =>
                  rw [if_pos ⟨trivial, HCU.out, rfl⟩] at ht2
                  cases r2 with
                  | false =>
                    rw [Bool.or_false] at ht2
                    have HT3 := Aside0.mk ht2
                    clear ht2
                    go_wp2_with (go_at_call 56; (with_reducible refine (HRE2.out _ HE4.out.1.ps HE4.out.2).mono ?_); rintro e w5 ⟨rfl, hb, hm⟩; have HE5 := Aside0.mk (And.intro (HE4.out.1.mv HE4.out.2 hm HGH.out.2.1 HGH.out.1) hb); clear hb hm)
                    go_roundg q
                    case measure => omega
                    case rel => exact ⟨k + 1, true, is, c2, rfl, rfl, rfl, HMQ.out, HCL2.out, HT3, HE5⟩
                  | true =>
                    rw [Bool.or_true] at ht2
                    have HT3 := Aside0.mk ht2
                    clear ht2
                    go_wp2_with (go_at_call 56; (with_reducible refine (HRE2.out _ HE4.out.1.ps HE4.out.2).mono ?_); rintro e w5 ⟨rfl, hb, hm⟩; have HE5 := Aside0.mk (And.intro (HE4.out.1.mv HE4.out.2 hm HGH.out.2.1 HGH.out.1) hb); clear hb hm)
                    go_roundg q
                    case measure => omega
                    case rel => exact ⟨k + 1, true, true, c2, rfl, rfl, rfl, HMQ.out, HCL2.out, HT3, HE5⟩)
            · rw [if_neg (fun h => cn ⟨h.1, h.2.1⟩)] at ht
              have HT2 := Aside0.mk ht
              clear ht
              cases nb with
              | false =>
                clear cn
                go_wp2_with (first
                  | ((with_reducible refine gate_storeT (t := 76) (p := 14) rfl ?_); refine store_st rfl 14 _ rfl _ rfl ST.nil u rfl HV2.out.1 ?_; intro w3 hc hm; have hbl := (hm.below HV2.out.2.1 (by have := HV2.out.2.2; omega) (by have := HV2.out.2.1.size; omega)); have HE3 := Aside0.mk (HEV.out.1.call hbl); have HN3 := Aside0.mk (BAt.move hbl HEV.out.2); have kk := HE3.out.bt.cell HNB.out; have s0 := VAt.s0 hc; have s1 := VAt.s1 hc; have s2 := VAt.s2 hc; have s3 := VAt.s3 hc; have s4 := VAt.s4 hc; clear hc hm hbl)
                  | ((with_reducible refine gate_alloc (t := 76) (d := 14) rfl rfl ?_); refine alloc_st rfl rfl rfl ?_; intro r w2 hg1 hc1 hb1; have HV2 : Aside0 (VAt w2 r 76 ST.nil.cells ∧ Below wr.heap.size wr w2 ∧ r = wr.heap.size) := ⟨hc1, hb1, hg1⟩; clear hg1 hc1 hb1)
                  | ((with_reducible refine gate_load (t := 76) (p := 39) rfl ?_); refine load_stc rfl 39 rfl sb (k * 7) rfl u HCS.out ?_))
                (try dsimp only [Act.put])
                go_quiet (fail)
                have HE4 := Aside0.mk (And.intro (HE3.out.call (below_drewN w3 nq)) (BAt.move (below_drewN w3 nq) HN3.out))
                go_wp2
                go_roundg q
                case measure => omega
                case rel => exact ⟨k + 1, so, is, nx, rfl, rfl, rfl, HMQ.out, HXL2.out, HT2, HE4⟩
              | true =>
                have c0 : (u.op == 0) = false := beq_eq_false_iff_ne.2 (fun e => cn ⟨rfl, e⟩)
                clear cn
                go_wp2_with (first
                  | ((with_reducible refine gate_storeT (t := 76) (p := 14) rfl ?_); refine store_st rfl 14 _ rfl _ rfl ST.nil u rfl HV2.out.1 ?_; intro w3 hc hm; have hbl := (hm.below HV2.out.2.1 (by have := HV2.out.2.2; omega) (by have := HV2.out.2.1.size; omega)); have HE3 := Aside0.mk (HEV.out.1.call hbl); have HN3 := Aside0.mk (BAt.move hbl HEV.out.2); have kk := HE3.out.bt.cell HNB.out; have s0 := VAt.s0 hc; have s1 := VAt.s1 hc; have s2 := VAt.s2 hc; have s3 := VAt.s3 hc; have s4 := VAt.s4 hc; clear hc hm hbl)
                  | ((with_reducible refine gate_alloc (t := 76) (d := 14) rfl rfl ?_); refine alloc_st rfl rfl rfl ?_; intro r w2 hg1 hc1 hb1; have HV2 : Aside0 (VAt w2 r 76 ST.nil.cells ∧ Below wr.heap.size wr w2 ∧ r = wr.heap.size) := ⟨hc1, hb1, hg1⟩; clear hg1 hc1 hb1)
                  | ((with_reducible refine gate_load (t := 76) (p := 39) rfl ?_); refine load_stc rfl 39 rfl sb (k * 7) rfl u HCS.out ?_))
                (try dsimp only [Act.put])
                go_quiet (fail)
                have HE4 := Aside0.mk (And.intro (HE3.out.call (below_drewN w3 nq)) (BAt.move (below_drewN w3 nq) HN3.out))
                go_wp2
                go_roundg q
                case measure => omega
                case rel => exact ⟨k + 1, so, is, nx, rfl, rfl, rfl, HMQ.out, HXL2.out, HT2, HE4⟩)
end Go.Proofs.Ytclgnefeankbgaa.M
