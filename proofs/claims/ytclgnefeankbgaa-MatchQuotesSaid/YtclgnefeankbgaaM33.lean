/- A repetition by numbers: the walk. Conditions: as each theorem says. -/
import Derived.Test.YtclgnefeankbgaaM29
namespace Go.Proofs.Ytclgnefeankbgaa.M
open Go Go.RowKit Go.Proofs.YtclgnefeankbgaaW.PrintWords Go.Proofs.YtclgnefeankbgaaW.PrintLast Go.Proofs.YtclgnefeankbgaaW.PrintMore Hand
attribute [local go_sem] Oper.semAt_some max2_int min2_int max_two min_two max_three min_three max_four min_four
set_option linter.unusedVariables false
set_option linter.unusedSimpArgs false
set_option maxHeartbeats 16000000 in
set_option maxRecDepth 100000 in
theorem rep.many (c : C4) (m d : Nat) (nu : Bool) (kids : Pt) (f : List ST → List ST) (most L E : Nat) (hg : Gr f L) (hE : L = 0 ∨ E = L + 1) (hm : m * L + d * E + 2 ≤ most) (hm60 : m ≤ 60 ∧ d ≤ 60) (hl1 : kids.len = 1)
    (hf : 0 < m + d → CodeC 36 (fun v => .agg v.cells) f kids L) : CodeC 55 (fun v => .agg v.cells) (repC (m : Int) ((m : Int) + (d : Int)) f) (.cons 5 c (m : Int) ((m : Int) + (d : Int)) nu kids .nil) most := by
  intro lo pp s z xs b v W hp h1 h2 h3 hfv hl
  obtain ⟨hvk, hvc, hvle, hvmo, hvnu⟩ := hfv.head
  obtain ⟨v', vs', h0, _, _, _, _, _, ⟨ws, hrow, hkids⟩, _⟩ := hfv
  cases h0
  have hnew := fun w r hr hc hb => CD.new (w := w) (r := r) hp h1 h2 h3 hrow hkids hr hc hb
  have HNW := Aside0.mk hnew
  unfold CodeC at hf
  dsimp only at hf
  have HF := Aside0.mk hf
  have HG := Aside0.mk hg
  have HL1 := Aside0.mk hl1
  have HLE := Aside0.mk hE
  have HXL : Aside0 (xs.length + m * L + d * E + 2 ≤ 1900) := ⟨by omega⟩
  obtain ⟨N, hN⟩ : ∃ N, xs.length = N := ⟨_, rfl⟩
  obtain ⟨k2c, hk2⟩ : ∃ cap, W.cell? ⟨pp, 2, none⟩ = some (.slice (b.map fun g => ⟨g, 0, none⟩) xs.length cap) := by
    obtain ⟨⟨cap, e1, _⟩, _⟩ := hp
    exact ⟨cap, (blk_cell e1 2).trans rfl⟩
  have hppl := hp.lt
  have HPC : Aside0 (∀ w, Below W.heap.size W w → w.cell? ⟨pp, 2, none⟩ = some (.slice (b.map fun g => ⟨g, 0, none⟩) N k2c)) := ⟨fun w hb => by
    rw [← hN, ← hk2]
    exact World.cell?_of_block (hb.block pp hppl)⟩
  have d1 : decide ((m : Int) + (d : Int) < 0) = false := decide_eq_false (by omega)
  have w1 : IntKind.i64.wrap ((m : Int) + (d : Int) - (m : Int)) = (d : Int) := by rw [IntKind.wrap_i64]; omega
  have em : (((m : Int) + (d : Int)) - (m : Int)).toNat = d := by omega
  have em2 : ((m : Int)).toNat = m := by omega
  obtain ⟨Z1, hZ1⟩ : ∃ Z, iterC f m xs = Z := ⟨_, rfl⟩
  have HZ1 := Aside0.mk hZ1
  have hy : repC (m : Int) ((m : Int) + (d : Int)) f xs = patchB (optC f d [] Z1).1 (optC f d [] Z1).2 := by
    unfold repC
    rw [if_neg (fun h => by omega), if_neg (fun h => by omega), em, em2, hZ1]
  have HY := Aside0.mk hy
  clear hnew hp h1 h2 h3 hrow hkids hf hl1 hN hk2 hppl hg hm hvc hvk hl hZ1 hy em em2 hE
  go_enter Try.func55, Try.ntmps55
  go_wp2_with ((with_reducible refine gate_box (t := 67) (d := 3) rfl rfl ?_); refine box_pt rfl rfl _ rfl v rfl ?_; intro r3 w1 hg1 hc1 hb1; have HS := Aside0.mk (HNW.out w1 r3 hg1 hc1 hb1); have q5 := hc1.c5; have q6 := hc1.c6; rw [hvle] at q5; rw [hvmo] at q6; have kp := HPC.out w1 hb1; clear hg1 hc1 hb1)
  go_loopg [126] m (fun kq v84 w' => ∃ (i : Nat) (ys : List ST) (b' : Option Nat), v84 = .int .i64 (i : Int) ∧ i + kq = m ∧ ys.length + kq * L + d * E + 2 ≤ 1900 ∧ Aside0 (iterC f kq ys = Z1) ∧ Aside0 (CD lo pp s z b W w' r3 v ws 0 kids ys b'))
  case atStart => exact ⟨0, xs, b, rfl, by omega, HXL.out, HZ1, HS⟩
  case round =>
    clear HS HZ1 HXL kp q5 q6
    obtain ⟨i, ys, b1, rfl, hin, hys, HB0, HS⟩ := hrel
    obtain ⟨u, kb, kcap, kk, kc, kle, kmo, knu, kkids, hkf, hkn, hkb, k8, hcs, hfu⟩ := HS.out.kid HL1.out
    have HC := Aside0.mk hcs
    have HFU := Aside0.mk hfu
    clear hkf hkn hkb hcs hfu
    have hgy := HG.out ys
    cases gk with
    | succ k =>
      have hi : i < m := by omega
      have HPOS : Aside0 (0 < m + d) := ⟨by omega⟩
      have i1 : (i : Int) < (m : Int) := by omega
      have e0 : decide ((i : Int) < (m : Int)) = true := decide_eq_true i1
      have e1 : decide (i < m) = true := decide_eq_true hi
      have w2 : IntKind.i64.wrap ((i : Int) + 1) = (i : Int) + 1 := by rw [IntKind.wrap_i64]; omega
      rw [Nat.succ_mul] at hys
      have HLN : Aside0 (ys.length + L ≤ 1900) := ⟨by omega⟩
      have hrel2 : (f ys).length + k * L + d * E + 2 ≤ 1900 := by omega
      have HREL := Aside0.mk hrel2
      have HB1 : Aside0 (iterC f k (f ys) = Z1) := ⟨HB0.out⟩
      clear hys hrel2 hgy HB0
      go_wp2_with (first
        | (go_at_call 36; (with_reducible refine (HF.out HPOS.out lo pp s z ys b1 u _ HS.out.ps HS.out.lp HS.out.lb (Nat.le_trans HS.out.lw HS.out.ch.size) HFU.out HLN.out).mono ?_); rintro e w7 ⟨b2, rfl, hp, hc⟩; have HS5 := Aside0.mk (HS.out.step hp hc); clear hp hc)
        | ((with_reducible refine gate_load (t := 67) (p := 131) rfl ?_); refine load_ptc rfl 131 rfl kb 0 rfl u HC.out ?_))
      go_roundg k
      case measure => omega
      case rel => exact ⟨i + 1, f ys, b2, rfl, by omega, HREL.out, HB1, HS5⟩
    | zero =>
      have hb : ys = Z1 := HB0.out
      subst hb
      have hi : ¬ i < m := by omega
      have e0 : decide ((i : Int) < (m : Int)) = false := decide_eq_false (by omega)
      have e1 : decide (i < m) = false := decide_eq_false hi
      have q5 := HS.out.h3.c5
      have q6 := HS.out.h3.c6
      rw [hvle] at q5
      rw [hvmo] at q6
      rw [Nat.zero_mul, Nat.add_zero] at hys
      have HYS := Aside0.mk hys
      clear hys hgy HB0 hi hin k8
      go_wp2
      go_loopg [8, 140] d (fun kq v8 v140 w' => ∃ (j : Nat) (ys2 : List ST) (b2 e : Option Nat) (cap : Nat) (l2 : List Nat), v140 = .int .i64 (j : Int) ∧ j + kq = d ∧ v8 = .slice (e.map fun g => ⟨g, 0, none⟩) l2.length cap ∧ ys2.length + kq * E + 2 ≤ 1900 ∧ l2.length ≤ j ∧ (∀ k ∈ l2, k < ys2.length) ∧ Aside0 (optC f kq l2 ys2 = optC f d [] ys) ∧ Aside0 (CD lo pp s z b W w' r3 v ws 0 kids ys2 b2) ∧ Aside0 (EN W w' pp r3 b2 e cap l2))
      case atStart => exact ⟨0, ys, b1, none, 0, [], rfl, by omega, rfl, HYS.out, Nat.le_refl _, (fun k hk => by cases hk), ⟨rfl⟩, HS, ⟨EN.nil _ _ _ _ _⟩⟩
      case round =>
        clear HS HYS q5 q6
        obtain ⟨j, ys2, b2, e, cap, l2, rfl, hjn, rfl, hys, hlj, hlk, HB0, HS, HE⟩ := hrel
        cases gk with
        | zero =>
          have e2 : decide ((j : Int) < (d : Int)) = false := decide_eq_false (by omega)
          have e3 : decide (j < d) = false := decide_eq_false (by omega)
          have hb0 := HB0.out
          have HT : Aside0 (patchB (l2.drop 0) ys2 = repC (m : Int) ((m : Int) + (d : Int)) f xs) := ⟨by rw [HY.out, ← hb0]; rfl⟩
          have HMEM : Aside0 ((∀ x ∈ l2, x < ys2.length) ∧ ys2.length ≤ 1900) := ⟨hlk, by omega⟩
          clear hb0 hlk hys HB0
          go_wp2
          go_loopg [184] l2.length (fun kq v184 w' => ∃ (q : Nat) (zs : List ST) (bz : Option Nat), v184 = .int .i64 (q : Int) ∧ q + kq = l2.length ∧ (∀ x ∈ l2, x < zs.length) ∧ zs.length ≤ 1900 ∧ Aside0 (patchB (l2.drop q) zs = repC (m : Int) ((m : Int) + (d : Int)) f xs) ∧ Aside0 (CD lo pp s z b W w' r3 v ws 0 kids zs bz) ∧ Aside0 (EN W w' pp r3 bz e cap l2))
          case atStart => exact ⟨0, ys2, b2, rfl, by omega, HMEM.out.1, HMEM.out.2, HT, HS, HE⟩
          case round =>
            clear HT HMEM
            obtain ⟨q, zs, bz, rfl, hqn, hmem, hzl, HB9, HS9, HE9⟩ := hrel
            cases gk with
            | zero =>
              have t1 : decide ((q : Int) < (l2.length : Int)) = false := decide_eq_false (by omega)
              have t2 : decide (q < l2.length) = false := decide_eq_false (by omega)
              have hb9 := HB9.out
              rw [List.drop_of_length_le (by omega)] at hb9
              have HBF := Aside0.mk hb9
              clear hb9 hmem hqn HB9
              go_wp2
              (try simp only [Exit.inBlock, Exit.then])
              go_end0
              exact ⟨bz, rfl, by rw [← HBF.out]; exact HS9.out.ps, HS9.out.ch⟩
            | succ k9 =>
              have hql : q < l2.length := by omega
              have t1 : decide ((q : Int) < (l2.length : Int)) = true := decide_eq_true (by omega)
              have t2 : decide (q < l2.length) = true := decide_eq_true hql
              have t3 : (0 : Int) ≤ (q : Int) := by omega
              have t4 : (q : Int) < (l2.length : Int) := by omega
              obtain ⟨eb, heb, kc9⟩ := HE9.out.at_ (List.getElem?_eq_getElem hql)
              obtain ⟨K9, hK9⟩ : ∃ K, l2[q] = K := ⟨_, rfl⟩
              rw [hK9] at kc9
              have hKz : K9 < zs.length := hmem K9 (hK9 ▸ List.getElem_mem hql)
              obtain ⟨ZL, hZL⟩ : ∃ n, zs.length = n := ⟨_, rfl⟩
              have HS10 := Aside0.mk (HS9.out.call (below_drew1 (Below.refl _ _)))
              obtain ⟨sb9, cap9, p1, p2, ⟨ov9, p3⟩, p4, p5, p6⟩ := PS.pokeB HS10.out.ps (i := K9) hKz (zs.length : Int)
              have HS11 := Aside0.mk (HS10.out.step p5 p6)
              have HE11 := Aside0.mk ((HE9.out.keep (w' := wr.drew) (fun _ _ => rfl) (Nat.le_refl _)).step p6)
              rw [hZL] at p2 HS11 HE11
              have r2 : wr.cell? ⟨pp, 2, none⟩ = some (.slice (some ⟨sb9, 0, none⟩) ZL cap9) := p2
              have r3' : wr.cell? ⟨sb9, K9 * 7 + 6, none⟩ = some ov9 := p3
              have r4 : wr.frozen? ⟨sb9, K9 * 7 + 6, none⟩ = false := p4
              have r5 : (0 : Int) ≤ (K9 : Int) := by omega
              have r6 : (K9 : Int) < (ZL : Int) := by omega
              have r7 : K9 < ZL := by omega
              have hb9 := HB9.out
              rw [List.drop_eq_getElem_cons hql, hK9] at hb9
              have hb10 : patchB (l2.drop (q + 1)) (setB zs K9 (zs.length : Int)) = repC (m : Int) ((m : Int) + (d : Int)) f xs := hb9
              rw [hZL] at hb10
              have HB10 := Aside0.mk hb10
              have hfin9 : q + 1 + k9 = l2.length ∧ (∀ x ∈ l2, x < (setB zs K9 (ZL : Int)).length) ∧ (setB zs K9 (ZL : Int)).length ≤ 1900 := ⟨by omega, fun x hx => by rw [setB_len]; exact hmem x hx, by rw [setB_len]; exact hzl⟩
              have HFIN9 := Aside0.mk hfin9
              have w8 : IntKind.i64.wrap ((q : Int) + 1) = (q : Int) + 1 := by rw [IntKind.wrap_i64]; omega
              clear p1 p2 p3 p4 p5 p6 hb9 hb10 hfin9 hmem hqn HB9 hK9 hZL hKz hzl
              subst heb
              go_wp2
              go_region
              all_goals (
                go_wp2
                go_roundg k9
                case measure => omega
                case rel => exact ⟨q + 1, setB zs K9 (ZL : Int), bz, rfl, HFIN9.out.1, HFIN9.out.2.1, HFIN9.out.2.2, HB10, HS11, HE11⟩)
        | succ k =>
          have e2 : decide ((j : Int) < (d : Int)) = true := decide_eq_true (by omega)
          have e3 : decide (j < d) = true := decide_eq_true (by omega)
          have HPOS : Aside0 (0 < m + d) := ⟨by omega⟩
          have hk2 := HS.out.k2
          obtain ⟨N2, hN2⟩ : ∃ N2, ys2.length = N2 := ⟨_, rfl⟩
          have HN := Aside0.mk hN2
          rw [Nat.succ_mul] at hys
          have HYL : Aside0 (ys2.length ≤ 2000 ∧ ys2.length + 1 + L ≤ 1900) := ⟨by have hE := HLE.out; omega, by have hE := HLE.out; omega⟩
          have w3 : IntKind.i64.wrap ((N2 : Int) + 1) = (N2 : Int) + 1 := by rw [IntKind.wrap_i64]; omega
          have n0 : (0 : Int) ≤ (N2 : Int) := by omega
          have n1 : (N2 : Int) < (N2 : Int) + 1 := by omega
          clear hk2 hN2
          go_upto_region 29 with (first
            | (go_at_call 37; (with_reducible refine (put.calls pp ⟨3, C4.nil, 0, 0⟩ s z ys2 b2 _ HS.out.ps HYL.out.1).mono ?_); rintro e w5 ⟨b3, rfl, hp, hc⟩; have hpk := PS.pokeA hp (i := ys2.length) (by simp) ((ys2.length : Int) + 1); have HS2 := Aside0.mk (HS.out.step hp hc); have HE2 := Aside0.mk (HE.out.step hc); obtain ⟨sb, scap, f1, f2, ⟨ov, f3⟩, f4, f5, f6⟩ := hpk; have HS3 := Aside0.mk (HS2.out.step f5 f6); have HE3 := Aside0.mk (HE2.out.step f6); rw [splitA_of] at HS3; rw [List.length_append, HN.out] at f2; rw [HN.out] at f3 f4 HS3 HE3; have hret := HN.out; rw [hret]; clear hp hc f5 f6 hret)
            | ((with_reducible refine gate_build (t := 76) rfl ?_); refine build_sk rfl 3 rfl ?_))
          obtain ⟨w6, hw6⟩ : ∃ w6, w5.setCell ⟨sb, N2 * 7 + 5, none⟩ (.int .i64 ((N2 : Int) + 1)) = w6 := ⟨_, rfl⟩
          rw [hw6]
          have hs4 := HS3.out
          have he4 := HE3.out
          rw [hw6] at hs4 he4
          have HS4 := Aside0.mk hs4
          have HE4 := Aside0.mk he4
          obtain ⟨u, kb, kcap, kk, kc, kle, kmo, knu, kkids, hkf, hkn, hkb, k8, hcs, hfu⟩ := hs4.kid HL1.out
          have HC := Aside0.mk hcs
          have HFU := Aside0.mk hfu
          have hgy := HG.out (splitA ys2)
          rw [splitA_len, HN.out] at hgy
          obtain ⟨M, hM⟩ : ∃ M, (f (splitA ys2)).length = M := ⟨_, rfl⟩
          have HM := Aside0.mk hM
          rw [hM] at hgy
          have hb0 := HB0.out
          rw [optC, hM, HN.out] at hb0
          clear hs4 he4 hkf hkn hkb hcs hfu hw6 f2 f3 f4 hM HB0
          by_cases cM : M = N2 + 1
          · rw [if_pos cM] at hb0
            have HB1 := Aside0.mk hb0
            subst cM
            have HNM : Aside0 (N2 < (f (splitA ys2)).length) := ⟨by rw [HM.out]; omega⟩
            have hN3 := HN.out
            have HT : Aside0 (patchB (l2.drop 0) ((f (splitA ys2)).take N2) = repC (m : Int) ((m : Int) + (d : Int)) f xs) := ⟨by rw [HY.out, ← hb0]; rfl⟩
            have HMEM : Aside0 ((∀ x ∈ l2, x < ((f (splitA ys2)).take N2).length) ∧ ((f (splitA ys2)).take N2).length ≤ 1900) := ⟨fun x hx => by rw [List.length_take, HM.out]; have := hlk x hx; omega, by rw [List.length_take, HM.out]; omega⟩
            clear hb0 hN3 hlk hys
            go_wp2_with (first
              | (go_at_call 36; (with_reducible refine (HF.out HPOS.out lo pp s z (splitA ys2) b3 u _ HS4.out.ps HS4.out.lp HS4.out.lb (Nat.le_trans HS4.out.lw HS4.out.ch.size) HFU.out (by rw [splitA_len]; exact HYL.out.2)).mono ?_); rintro e w7 ⟨b4, rfl, hp, hc⟩; have HS5 := Aside0.mk (HS4.out.step hp hc); have HE5 := Aside0.mk (HE4.out.step hc); obtain ⟨sb2, cap2, e1, e2, e3, e4, e5, e6⟩ := PS.cut hp (n := N2) HNM.out; have HS6 := Aside0.mk (HS5.out.step e5 e6); have HE6 := Aside0.mk (HE5.out.step e6); rw [HM.out] at e2 e3; have hcap : (N2 : Int) ≤ (cap2 : Int) := (by omega); have hcap2 : N2 ≤ cap2 := (by omega); clear e5 e6 hp hc)
              | ((with_reducible refine gate_load (t := 67) (p := 157) rfl ?_); refine load_ptc rfl 157 rfl kb 0 rfl u HC.out ?_))
            go_loopg [184] l2.length (fun kq v184 w' => ∃ (q : Nat) (zs : List ST) (bz : Option Nat), v184 = .int .i64 (q : Int) ∧ q + kq = l2.length ∧ (∀ x ∈ l2, x < zs.length) ∧ zs.length ≤ 1900 ∧ Aside0 (patchB (l2.drop q) zs = repC (m : Int) ((m : Int) + (d : Int)) f xs) ∧ Aside0 (CD lo pp s z b W w' r3 v ws 0 kids zs bz) ∧ Aside0 (EN W w' pp r3 bz e cap l2))
            case atStart => exact ⟨0, (f (splitA ys2)).take N2, b4, rfl, by omega, HMEM.out.1, HMEM.out.2, HT, HS6, HE6⟩
            case round =>
              clear HT HMEM
              obtain ⟨q, zs, bz, rfl, hqn, hmem, hzl, HB9, HS9, HE9⟩ := hrel
              cases gk with
              | zero =>
                have t1 : decide ((q : Int) < (l2.length : Int)) = false := decide_eq_false (by omega)
                have t2 : decide (q < l2.length) = false := decide_eq_false (by omega)
                have hb9 := HB9.out
                rw [List.drop_of_length_le (by omega)] at hb9
                have HBF := Aside0.mk hb9
                clear hb9 hmem hqn HB9
                go_wp2
                (try simp only [Exit.inBlock, Exit.then])
                go_end0
                exact ⟨bz, rfl, by rw [← HBF.out]; exact HS9.out.ps, HS9.out.ch⟩
              | succ k9 =>
                have hql : q < l2.length := by omega
                have t1 : decide ((q : Int) < (l2.length : Int)) = true := decide_eq_true (by omega)
                have t2 : decide (q < l2.length) = true := decide_eq_true hql
                have t3 : (0 : Int) ≤ (q : Int) := by omega
                have t4 : (q : Int) < (l2.length : Int) := by omega
                obtain ⟨eb, heb, kc9⟩ := HE9.out.at_ (List.getElem?_eq_getElem hql)
                obtain ⟨K9, hK9⟩ : ∃ K, l2[q] = K := ⟨_, rfl⟩
                rw [hK9] at kc9
                have hKz : K9 < zs.length := hmem K9 (hK9 ▸ List.getElem_mem hql)
                obtain ⟨ZL, hZL⟩ : ∃ n, zs.length = n := ⟨_, rfl⟩
                have HS10 := Aside0.mk (HS9.out.call (below_drew1 (Below.refl _ _)))
                obtain ⟨sb9, cap9, p1, p2, ⟨ov9, p3⟩, p4, p5, p6⟩ := PS.pokeB HS10.out.ps (i := K9) hKz (zs.length : Int)
                have HS11 := Aside0.mk (HS10.out.step p5 p6)
                have HE11 := Aside0.mk ((HE9.out.keep (w' := wr.drew) (fun _ _ => rfl) (Nat.le_refl _)).step p6)
                rw [hZL] at p2 HS11 HE11
                have r2 : wr.cell? ⟨pp, 2, none⟩ = some (.slice (some ⟨sb9, 0, none⟩) ZL cap9) := p2
                have r3' : wr.cell? ⟨sb9, K9 * 7 + 6, none⟩ = some ov9 := p3
                have r4 : wr.frozen? ⟨sb9, K9 * 7 + 6, none⟩ = false := p4
                have r5 : (0 : Int) ≤ (K9 : Int) := by omega
                have r6 : (K9 : Int) < (ZL : Int) := by omega
                have r7 : K9 < ZL := by omega
                have hb9 := HB9.out
                rw [List.drop_eq_getElem_cons hql, hK9] at hb9
                have hb10 : patchB (l2.drop (q + 1)) (setB zs K9 (zs.length : Int)) = repC (m : Int) ((m : Int) + (d : Int)) f xs := hb9
                rw [hZL] at hb10
                have HB10 := Aside0.mk hb10
                have hfin9 : q + 1 + k9 = l2.length ∧ (∀ x ∈ l2, x < (setB zs K9 (ZL : Int)).length) ∧ (setB zs K9 (ZL : Int)).length ≤ 1900 := ⟨by omega, fun x hx => by rw [setB_len]; exact hmem x hx, by rw [setB_len]; exact hzl⟩
                have HFIN9 := Aside0.mk hfin9
                have w8 : IntKind.i64.wrap ((q : Int) + 1) = (q : Int) + 1 := by rw [IntKind.wrap_i64]; omega
                clear p1 p2 p3 p4 p5 p6 hb9 hb10 hfin9 hmem hqn HB9 hK9 hZL hKz hzl
                subst heb
                go_wp2
                go_region
                all_goals (
                  go_wp2
                  go_roundg k9
                  case measure => omega
                  case rel => exact ⟨q + 1, setB zs K9 (ZL : Int), bz, rfl, HFIN9.out.1, HFIN9.out.2.1, HFIN9.out.2.2, HB10, HS11, HE11⟩)
          · rw [if_neg cM] at hb0
            have HB1 := Aside0.mk hb0
            have d5 : ((M : Int) == (N2 : Int) + 1) = false := beq_eq_false_iff_ne.2 (by omega)
            have d6 : (M == N2 + 1) = false := beq_eq_false_iff_ne.2 cM
            have hL2 : l2.length ≤ 2000 := by omega
            have HL2 := Aside0.mk hL2
            have hN3 := HN.out
            have hfin : (f (splitA ys2)).length + k * E + 2 ≤ 1900 ∧ (l2 ++ [N2]).length ≤ j + 1 ∧ (∀ q ∈ l2 ++ [N2], q < (f (splitA ys2)).length) := ⟨by have hE := HLE.out; rw [HM.out]; omega, by simp; exact hlj, fun q hq => by
              rw [HM.out]
              rcases List.mem_append.1 hq with hq | hq
              · have := hlk q hq; omega
              · have : q = N2 := by simpa using hq
                omega⟩
            have HFIN := Aside0.mk hfin
            have hjk : j + 1 + k = d := by omega
            have w7 : IntKind.i64.wrap ((j : Int) + 1) = (j : Int) + 1 := by rw [IntKind.wrap_i64]; omega
            clear hb0 hN3 hfin
            go_wp2_with (first
              | ((with_reducible refine gate_app rfl ?_); refine append_int rfl _ _ rfl _ l2.length (intsV l2) rfl HJ1.out ⟨w7.heap.size, 0, none⟩ (.int .i64 (N2 : Int)) rfl HJ2.out rfl HL2.out ?_; intro x w9 g1 g2 g3; obtain ⟨e', cap', hx9, hen, hcd⟩ := HJ3.out x w9 g1 g2 g3; have hx8 : x = .slice (e'.map fun g => ⟨g, 0, none⟩) (l2.length + 1) cap' := hx9; subst hx8; have HE6 := Aside0.mk hen; have HS6 := Aside0.mk hcd; clear g1 g2 g3 hx9 hen hcd)
              | ((with_reducible refine gate_row (t := 30) (n := 1) rfl ?_); refine row_int rfl _ rfl (N2 : Int) rfl ?_; intro nb w8 hn1 hw1; obtain ⟨j1, j2, j3⟩ := HE5.out.join HS5.out N2 hw1; have HJ1 := Aside0.mk j1; have HJ2 := Aside0.mk j2; have HJ3 := Aside0.mk j3; subst hn1; clear hw1 j1 j2 j3)
              | (go_at_call 36; (with_reducible refine (HF.out HPOS.out lo pp s z (splitA ys2) b3 u _ HS4.out.ps HS4.out.lp HS4.out.lb (Nat.le_trans HS4.out.lw HS4.out.ch.size) HFU.out (by rw [splitA_len]; exact HYL.out.2)).mono ?_); rintro e w7 ⟨b4, rfl, hp, hc⟩; have HS5 := Aside0.mk (HS4.out.step hp hc); have HE5 := Aside0.mk (HE4.out.step hc); obtain ⟨cap2, e5, _⟩ := HS5.out.k2; rw [HM.out] at e5; clear hp hc)
              | ((with_reducible refine gate_load (t := 67) (p := 157) rfl ?_); refine load_ptc rfl 157 rfl kb 0 rfl u HC.out ?_))
            go_roundg k
            case measure => omega
            case rel => exact ⟨j + 1, f (splitA ys2), b4, e', cap', l2 ++ [N2], rfl, hjk, by rw [List.length_append]; rfl, HFIN.out.1, HFIN.out.2.1, HFIN.out.2.2, HB1, HS6, HE6⟩
end Go.Proofs.Ytclgnefeankbgaa.M
