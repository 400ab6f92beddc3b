/- A repetition without end: the walk. Conditions: as each theorem says. -/
import Derived.Test.YtclgnefeankbgaaM25
namespace Go.Proofs.Ytclgnefeankbgaa.M
open Go Go.RowKit Go.Proofs.YtclgnefeankbgaaW.PrintWords Go.Proofs.YtclgnefeankbgaaW.PrintLast Go.Proofs.YtclgnefeankbgaaW.PrintMore Hand
attribute [local go_sem] Oper.semAt_some max2_int min2_int max_two min_two max_three min_three max_four min_four
set_option linter.unusedVariables false
set_option linter.unusedSimpArgs false
theorem splitA_of (xs : List ST) : setA (xs ++ [⟨3, C4.nil, 0, 0⟩]) xs.length ((xs.length : Int) + 1) = splitA xs := rfl
/-- The part of a repetition. -/
theorem CD.kid {lo pp : Nat} {s : ByteArray} {z : Int} {b0 : Option Nat} {W w : World} {r : Nat} {v : PV} {ws : List PV} {f : Pt} {xs : List ST} {b : Option Nat} (h : CD lo pp s z b0 W w r v ws 0 f xs b) (hl : f.len = 1) : ∃ u kb cap k c le mo nu kids, f = .cons k c le mo nu kids .nil ∧ v.n = 1 ∧ v.b = some kb ∧ w.cell? ⟨r, 8, none⟩ = some (.slice (some ⟨kb, 0, none⟩) 1 cap) ∧ (∀ j x, u.cells[j]? = some x → w.cell? ⟨kb, 0 + j, none⟩ = some x) ∧ FV w (fun k => k < lo) f [u] := by
  have hone := Pt.one_of hl
  cases f with
  | nil => cases hone
  | cons k c le mo nu kids rest => cases rest with
    | cons => cases hone
    | nil =>
      obtain ⟨u, kb, hi, hkb, hc, hf, _⟩ := h.next
      have hn : v.n = 1 := by
        have h1 := h.row.1
        have h2 := FV.len h.fv
        rw [List.drop_zero] at h2
        rw [h1, h2]
        rfl
      have k8 := h.h3.c8
      rw [hkb, hn] at k8
      exact ⟨u, kb, v.cap, k, c, le, mo, nu, kids, rfl, hn, hkb, k8, fun j x hj => by have := hc j x hj; rw [Nat.zero_mul] at this; exact this, hf⟩
set_option maxHeartbeats 8000000 in
set_option maxRecDepth 100000 in
theorem rep.star (c : C4) (mo : Int) (nu : Bool) (kids : Pt) (f : List ST → List ST) (most L : Nat) (hg : Gr f L) (hm : L + 2 ≤ most) (hl1 : kids.len = 1) (hmo : mo < 0)
    (hf : CodeC 36 (fun v => .agg v.cells) f kids L) : CodeC 55 (fun v => .agg v.cells) (repC 0 mo f) (.cons 5 c 0 mo nu kids .nil) most := by
  intro lo pp s z xs b v W hp h1 h2 h3 hfv hl
  obtain ⟨hvk, hvc, hvle, hvmo, hvnu⟩ := hfv.head
  obtain ⟨v', vs', h0, _, _, _, _, _, ⟨ws, hrow, hkids⟩, _⟩ := hfv
  cases h0
  have hnew := fun w r hr hc hb => CD.new (w := w) (r := r) hp h1 h2 h3 hrow hkids hr hc hb
  have HNW := Aside0.mk hnew
  unfold CodeC at hf
  dsimp only at hf
  have HF := Aside0.mk hf
  have HL1 := Aside0.mk hl1
  have HXL : Aside0 (xs.length ≤ 2000 ∧ xs.length + 1 + L ≤ 1900) := ⟨by omega, by omega⟩
  have hgg := hg (splitA xs)
  rw [splitA_len] at hgg
  have HGG := Aside0.mk hgg
  obtain ⟨N, hN⟩ : ∃ N, xs.length = N := ⟨_, rfl⟩
  have HN := Aside0.mk hN
  obtain ⟨k2c, hk2⟩ : ∃ cap, W.cell? ⟨pp, 2, none⟩ = some (.slice (b.map fun g => ⟨g, 0, none⟩) xs.length cap) := by
    obtain ⟨⟨cap, e1, _⟩, _⟩ := hp
    exact ⟨cap, (blk_cell e1 2).trans rfl⟩
  have hppl := hp.lt
  have HPC : Aside0 (∀ w, Below W.heap.size W w → w.cell? ⟨pp, 2, none⟩ = some (.slice (b.map fun g => ⟨g, 0, none⟩) N k2c)) := ⟨fun w hb => by
    rw [← hN, ← hk2]
    exact World.cell?_of_block (hb.block pp hppl)⟩
  have d1 : decide (mo < 0) = true := decide_eq_true hmo
  have hN2 : N ≤ 1900 := by omega
  have w1 : IntKind.i64.wrap ((N : Int) + 1) = (N : Int) + 1 := by rw [IntKind.wrap_i64]; omega
  have n0 : (0 : Int) ≤ (N : Int) := by omega
  have n1 : (N : Int) < (N : Int) + 1 := by omega
  have HY : Aside0 (repC 0 mo f xs = if (f (splitA xs)).length = xs.length + 1 then (f (splitA xs)).take xs.length else setB (f (splitA xs) ++ [⟨4, C4.nil, xs.length, 0⟩]) xs.length (((f (splitA xs)).length : Int) + 1)) := ⟨by unfold repC; rw [if_pos ⟨hmo, rfl⟩]⟩
  clear hnew hp h1 h2 h3 hrow hkids hf hl1 hgg hN hk2 hppl hmo hg hm hvc hvk hl
  obtain ⟨M, hM⟩ : ∃ M, (f (splitA xs)).length = M := ⟨_, rfl⟩
  have HM := Aside0.mk hM
  have hM2 : N + 1 ≤ M ∧ M ≤ N + 1 + L := by have := HGG.out; rw [hM, HN.out] at this; exact this
  have hM3 : M ≤ 2000 := by have := HXL.out.2; rw [HN.out] at this; omega
  have HML : Aside0 ((f (splitA xs)).length ≤ 2000) := ⟨by rw [hM]; exact hM3⟩
  have hy := HY.out
  rw [hM, HN.out] at hy
  clear HY hM
  by_cases cM : M = N + 1
  · rw [if_pos cM] at hy
    have HY := Aside0.mk hy
    subst cM
    have HNM : Aside0 (N < (f (splitA xs)).length) := ⟨by rw [HM.out]; omega⟩
    clear hy hM2 hM3
    go_enter Try.func55, Try.ntmps55
    go_upto_region 5 with (first
      | (go_at_call 37; (with_reducible refine (put.calls pp ⟨3, C4.nil, 0, 0⟩ s z xs b _ HS.out.ps HXL.out.1).mono ?_); rintro e w5 ⟨b1, rfl, hp, hc⟩; have hpk := PS.pokeA hp (i := xs.length) (by simp) ((xs.length : Int) + 1); have HS2 := Aside0.mk (HS.out.step hp hc); obtain ⟨sb, cap, e1, e2, ⟨ov, e3⟩, e4, e5, e6⟩ := hpk; have HS3 := Aside0.mk (HS2.out.step e5 e6); rw [splitA_of] at HS3; rw [List.length_append, HN.out] at e2; rw [HN.out] at e3 e4 HS3; have hret := HN.out; rw [hret]; clear hp hc e5 e6 hret)
      | ((with_reducible refine gate_build (t := 76) rfl ?_); refine build_sk rfl 3 rfl ?_)
      | ((with_reducible refine gate_box (t := 67) (d := 3) rfl rfl ?_); refine box_pt rfl rfl _ rfl v rfl ?_; intro r3 w1 hg1 hc1 hb1; have HS := Aside0.mk (HNW.out w1 r3 hg1 hc1 hb1); have q5 := hc1.c5; have q6 := hc1.c6; rw [hvle] at q5; rw [hvmo] at q6; have kp := HPC.out w1 hb1; clear hg1 hc1 hb1))
    obtain ⟨w6, hw6⟩ : ∃ w6, w5.setCell ⟨sb, N * 7 + 5, none⟩ (.int .i64 ((N : Int) + 1)) = w6 := ⟨_, rfl⟩
    rw [hw6]
    have hs4 := HS3.out
    rw [hw6] at hs4
    have HS4 := Aside0.mk hs4
    obtain ⟨u, kb, kcap, kk, kc, kle, kmo, knu, kkids, hkf, hkn, hkb, k8, hcs, hfu⟩ := hs4.kid HL1.out
    have HC := Aside0.mk hcs
    have HFU := Aside0.mk hfu
    clear hs4 hkf hkn hkb hcs hfu hw6 e2 e3 e4 kp q5 q6
    go_wp2_with (first
      | (go_at_call 36; (with_reducible refine (HF.out lo pp s z (splitA xs) b1 u _ HS4.out.ps HS4.out.lp HS4.out.lb (Nat.le_trans HS4.out.lw HS4.out.ch.size) HFU.out (by rw [splitA_len]; exact HXL.out.2)).mono ?_); rintro e w7 ⟨b2, rfl, hp, hc⟩; have HS5 := Aside0.mk (HS4.out.step hp hc); obtain ⟨sb2, cap2, e1, e2, e3, e4, e5, e6⟩ := PS.cut hp (n := N) HNM.out; have HS6 := Aside0.mk (HS5.out.step e5 e6); rw [HM.out] at e2 e3; have hcap : (N : Int) ≤ (cap2 : Int) := (by omega); have hcap2 : N ≤ cap2 := (by omega); clear e5 e6; clear hp hc)
      | ((with_reducible refine gate_load (t := 67) (p := 41) rfl ?_); refine load_ptc rfl 41 rfl kb 0 rfl u HC.out ?_))
    refine bodyPost_ret (results_none rfl _ _ _) rfl ?_
    exact ⟨b2, rfl, by rw [HY.out]; exact HS6.out.ps, HS6.out.ch⟩
  rw [if_neg cM] at hy
  have HY := Aside0.mk hy
  have d5 : ((M : Int) == (N : Int) + 1) = false := beq_eq_false_iff_ne.2 (by omega)
  have d6 : (M == N + 1) = false := beq_eq_false_iff_ne.2 cM
  clear hy hM2 hM3
  go_enter Try.func55, Try.ntmps55
  go_upto_region 5 with (first
    | (go_at_call 37; (with_reducible refine (put.calls pp ⟨3, C4.nil, 0, 0⟩ s z xs b _ HS.out.ps HXL.out.1).mono ?_); rintro e w5 ⟨b1, rfl, hp, hc⟩; have hpk := PS.pokeA hp (i := xs.length) (by simp) ((xs.length : Int) + 1); have HS2 := Aside0.mk (HS.out.step hp hc); obtain ⟨sb, cap, e1, e2, ⟨ov, e3⟩, e4, e5, e6⟩ := hpk; have HS3 := Aside0.mk (HS2.out.step e5 e6); rw [splitA_of] at HS3; rw [List.length_append, HN.out] at e2; rw [HN.out] at e3 e4 HS3; have hret := HN.out; rw [hret]; clear hp hc e5 e6 hret)
    | ((with_reducible refine gate_build (t := 76) rfl ?_); refine build_sk rfl 3 rfl ?_)
    | ((with_reducible refine gate_box (t := 67) (d := 3) rfl rfl ?_); refine box_pt rfl rfl _ rfl v rfl ?_; intro r3 w1 hg1 hc1 hb1; have HS := Aside0.mk (HNW.out w1 r3 hg1 hc1 hb1); have q5 := hc1.c5; have q6 := hc1.c6; rw [hvle] at q5; rw [hvmo] at q6; have kp := HPC.out w1 hb1; clear hg1 hc1 hb1))
  obtain ⟨w6, hw6⟩ : ∃ w6, w5.setCell ⟨sb, N * 7 + 5, none⟩ (.int .i64 ((N : Int) + 1)) = w6 := ⟨_, rfl⟩
  rw [hw6]
  have hs4 := HS3.out
  rw [hw6] at hs4
  have HS4 := Aside0.mk hs4
  obtain ⟨u, kb, kcap, kk, kc, kle, kmo, knu, kkids, hkf, hkn, hkb, k8, hcs, hfu⟩ := hs4.kid HL1.out
  have HC := Aside0.mk hcs
  have HFU := Aside0.mk hfu
  clear hs4 hkf hkn hkb hcs hfu hw6 e2 e3 e4 kp q5 q6
  go_wp2_with (first
    | (go_at_call 37; (with_reducible refine (put.calls pp ⟨4, C4.nil, (N : Int), 0⟩ s z _ b2 _ HS5.out.ps HML.out).mono ?_); rintro e w8 ⟨b3, rfl, hp, hc⟩; have HS7 := Aside0.mk (HS5.out.step hp hc); clear hp hc)
    | ((with_reducible refine gate_build (t := 76) rfl ?_); refine build_sa rfl 4 _ rfl (N : Int) rfl ?_)
    | (go_at_call 36; (with_reducible refine (HF.out lo pp s z (splitA xs) b1 u _ HS4.out.ps HS4.out.lp HS4.out.lb (Nat.le_trans HS4.out.lw HS4.out.ch.size) HFU.out (by rw [splitA_len]; exact HXL.out.2)).mono ?_); rintro e w7 ⟨b2, rfl, hp, hc⟩; have HS5 := Aside0.mk (HS4.out.step hp hc); obtain ⟨cap2, e5, _⟩ := HS5.out.k2; rw [HM.out] at e5; clear hp hc)
    | ((with_reducible refine gate_load (t := 67) (p := 41) rfl ?_); refine load_ptc rfl 41 rfl kb 0 rfl u HC.out ?_))
  have hlen : (f (splitA xs) ++ [(⟨4, C4.nil, (N : Int), 0⟩ : ST)]).length = M + 1 := by rw [List.length_append, HM.out]; rfl
  have HS8 := Aside0.mk (HS7.out.call (below_drew1 (Below.refl _ _)))
  obtain ⟨sb3, cap3, e1, e2, ⟨ov, e3⟩, e4, e5, e6⟩ := PS.pokeB HS8.out.ps (i := N) (by rw [hlen]; have := HGG.out; rw [HM.out, HN.out] at this; omega) ((M : Int) + 1)
  have HS9 := Aside0.mk (HS8.out.step e5 e6)
  rw [hlen] at e2
  have k2 : w8.cell? ⟨pp, 2, none⟩ = some (.slice (some ⟨sb3, 0, none⟩) (M + 1) cap3) := e2
  have k3 : w8.cell? ⟨sb3, N * 7 + 6, none⟩ = some ov := e3
  have k4 : w8.frozen? ⟨sb3, N * 7 + 6, none⟩ = false := e4
  have hNM : N + 1 ≤ M := by have := HGG.out; rw [HM.out, HN.out] at this; exact this.1
  have j1 : (N : Int) < (M : Int) + 1 := by omega
  have j2 : N < M + 1 := by omega
  clear e2 e3 e4 e5 e6 hlen
  go_region
  all_goals (
    go_wp2
    refine bodyPost_ret (results_none rfl _ _ _) rfl ?_
    exact ⟨b3, rfl, by rw [HY.out]; exact HS9.out.ps, HS9.out.ch⟩)
end Go.Proofs.Ytclgnefeankbgaa.M
namespace Go.Proofs.Ytclgnefeankbgaa.M
open Go Go.RowKit Go.Proofs.YtclgnefeankbgaaW.PrintWords Go.Proofs.YtclgnefeankbgaaW.PrintLast Go.Proofs.YtclgnefeankbgaaW.PrintMore Hand
attribute [local go_sem] Oper.semAt_some max2_int min2_int max_two min_two max_three min_three max_four min_four
set_option linter.unusedVariables false
set_option linter.unusedSimpArgs false
set_option maxHeartbeats 8000000 in
set_option maxRecDepth 100000 in
theorem rep.plus (c : C4) (m : Nat) (mo : Int) (nu : Bool) (kids : Pt) (f : List ST → List ST) (most L : Nat) (hg : Gr f L) (hm : (m + 1) * L + 2 ≤ most) (hm60 : m ≤ 60) (hl1 : kids.len = 1) (hmo : mo < 0)
    (hf : CodeC 36 (fun v => .agg v.cells) f kids L) : CodeC 55 (fun v => .agg v.cells) (repC ((m : Int) + 1) mo f) (.cons 5 c ((m : Int) + 1) mo nu kids .nil) most := by
  intro lo pp s z xs b v W hp h1 h2 h3 hfv hl
  obtain ⟨hvk, hvc, hvle, hvmo, hvnu⟩ := hfv.head
  obtain ⟨v', vs', h0, _, _, _, _, _, ⟨ws, hrow, hkids⟩, _⟩ := hfv
  cases h0
  have hnew := fun w r hr hc hb => CD.new (w := w) (r := r) hp h1 h2 h3 hrow hkids hr hc hb
  have HNW := Aside0.mk hnew
  unfold CodeC at hf
  dsimp only at hf
  have HF := Aside0.mk hf
  have HG := Aside0.mk hg
  have HL1 := Aside0.mk hl1
  have HXL : Aside0 (xs.length + (m + 1) * L + 2 ≤ 1900) := ⟨by omega⟩
  obtain ⟨N, hN⟩ : ∃ N, xs.length = N := ⟨_, rfl⟩
  obtain ⟨k2c, hk2⟩ : ∃ cap, W.cell? ⟨pp, 2, none⟩ = some (.slice (b.map fun g => ⟨g, 0, none⟩) xs.length cap) := by
    obtain ⟨⟨cap, e1, _⟩, _⟩ := hp
    exact ⟨cap, (blk_cell e1 2).trans rfl⟩
  have hppl := hp.lt
  have HPC : Aside0 (∀ w, Below W.heap.size W w → w.cell? ⟨pp, 2, none⟩ = some (.slice (b.map fun g => ⟨g, 0, none⟩) N k2c)) := ⟨fun w hb => by
    rw [← hN, ← hk2]
    exact World.cell?_of_block (hb.block pp hppl)⟩
  have d1 : decide (mo < 0) = true := decide_eq_true hmo
  have d2 : ((m : Int) + 1 == 0) = false := beq_eq_false_iff_ne.2 (by omega)
  have w1 : IntKind.i64.wrap ((m : Int) + 1 - 1) = (m : Int) := by rw [IntKind.wrap_i64]; omega
  have em : (((m : Int) + 1) - 1).toNat = m := by omega
  obtain ⟨Z1, hZ1⟩ : ∃ Z, iterC f m xs = Z := ⟨_, rfl⟩
  have HZ1 := Aside0.mk hZ1
  have hy : repC ((m : Int) + 1) mo f xs = if Z1.length < (f Z1).length then setB (f Z1 ++ [⟨3, C4.nil, Z1.length, 0⟩]) (f Z1).length (((f Z1).length : Int) + 1) else f Z1 := by
    unfold repC
    rw [if_neg (fun h => by omega), if_pos hmo, em, hZ1]
  have HY := Aside0.mk hy
  clear hnew hp h1 h2 h3 hrow hkids hf hl1 hN hk2 hppl hmo hg hm hvc hvk hl hZ1 hy em
  go_enter Try.func55, Try.ntmps55
  go_wp2_with ((with_reducible refine gate_box (t := 67) (d := 3) rfl rfl ?_); refine box_pt rfl rfl _ rfl v rfl ?_; intro r3 w1 hg1 hc1 hb1; have HS := Aside0.mk (HNW.out w1 r3 hg1 hc1 hb1); have q5 := hc1.c5; have q6 := hc1.c6; rw [hvle] at q5; rw [hvmo] at q6; have kp := HPC.out w1 hb1; clear hg1 hc1 hb1)
  go_loopg [84] m (fun kq v84 w' => ∃ (i : Nat) (ys : List ST) (b' : Option Nat), v84 = .int .i64 (i : Int) ∧ i + kq = m ∧ ys.length + (kq + 1) * L + 2 ≤ 1900 ∧ Aside0 (iterC f kq ys = Z1) ∧ Aside0 (CD lo pp s z b W w' r3 v ws 0 kids ys b'))
  case atStart => exact ⟨0, xs, b, rfl, by omega, HXL.out, HZ1, HS⟩
  case round =>
    clear HS HZ1 HXL kp q5 q6
    obtain ⟨i, ys, b1, rfl, hin, hys, HB0, HS⟩ := hrel
    obtain ⟨u, kb, kcap, kk, kc, kle, kmo, knu, kkids, hkf, hkn, hkb, k8, hcs, hfu⟩ := HS.out.kid HL1.out
    have HC := Aside0.mk hcs
    have HFU := Aside0.mk hfu
    obtain ⟨pcap, k2, _⟩ := HS.out.k2
    obtain ⟨P, hP⟩ : ∃ P, ys.length = P := ⟨_, rfl⟩
    rw [hP] at k2
    have HP := Aside0.mk hP
    clear hkf hkn hkb hcs hfu
    have hgy := HG.out ys
    cases gk with
    | succ k =>
      have hi : i < m := by omega
      have i1 : (i : Int) < (m : Int) := by omega
      have e0 : decide ((i : Int) < (m : Int)) = true := decide_eq_true i1
      have e1 : decide (i < m) = true := decide_eq_true hi
      have w2 : IntKind.i64.wrap ((i : Int) + 1) = (i : Int) + 1 := by rw [IntKind.wrap_i64]; omega
      rw [Nat.succ_mul] at hys
      have HLN : Aside0 (ys.length + L ≤ 1900) := ⟨by omega⟩
      have hrel2 : (f ys).length + (k + 1) * L + 2 ≤ 1900 := by omega
      have HREL := Aside0.mk hrel2
      have HB1 : Aside0 (iterC f k (f ys) = Z1) := ⟨HB0.out⟩
      clear hys hrel2 hgy HB0 hP
      go_wp2_with (first
        | (go_at_call 36; (with_reducible refine (HF.out lo pp s z ys b1 u _ HS.out.ps HS.out.lp HS.out.lb (Nat.le_trans HS.out.lw HS.out.ch.size) HFU.out HLN.out).mono ?_); rintro e w7 ⟨b2, rfl, hp, hc⟩; have HS5 := Aside0.mk (HS.out.step hp hc); clear hp hc)
        | ((with_reducible refine gate_load (t := 67) (p := 89) rfl ?_); refine load_ptc rfl 89 rfl kb 0 rfl u HC.out ?_))
      go_roundg k
      case measure => omega
      case rel => exact ⟨i + 1, f ys, b2, rfl, by omega, HREL.out, HB1, HS5⟩
    | zero =>
      have hb : ys = Z1 := HB0.out
      subst hb
      have hi : ¬ i < m := by omega
      have e0 : decide ((i : Int) < (m : Int)) = false := decide_eq_false (by omega)
      have e1 : decide (i < m) = false := decide_eq_false hi
      obtain ⟨M, hM⟩ : ∃ M, (f ys).length = M := ⟨_, rfl⟩
      have HM := Aside0.mk hM
      have hy := HY.out
      rw [hP, hM] at hy
      rw [hP, hM] at hgy
      rw [Nat.zero_add, Nat.one_mul, hP] at hys
      have HLN : Aside0 (ys.length + L ≤ 1900 ∧ (f ys).length ≤ 2000) := ⟨by omega, by omega⟩
      by_cases cM : P < M
      · rw [if_pos cM] at hy
        have HY2 := Aside0.mk hy
        have e3 : decide ((P : Int) < (M : Int)) = true := decide_eq_true (by omega)
        have e4 : decide (P < M) = true := decide_eq_true cM
        have w3 : IntKind.i64.wrap ((M : Int) + 1) = (M : Int) + 1 := by rw [IntKind.wrap_i64]; omega
        have n0 : (0 : Int) ≤ (M : Int) := by omega
        have n1 : (M : Int) < (M : Int) + 1 := by omega
        clear hy hys hgy hM hP HY cM hi hin
        go_wp2_with (first
          | (go_at_call 37; (with_reducible refine (put.calls pp ⟨3, C4.nil, (P : Int), 0⟩ s z _ b2 _ HS5.out.ps HLN.out.2).mono ?_); rintro e w8 ⟨b3, rfl, hp, hc⟩; have HS7 := Aside0.mk (HS5.out.step hp hc); obtain ⟨sb, cap, f1, f2, ⟨ov, f3⟩, f4, f5, f6⟩ := PS.pokeB hp (i := (f ys).length) (by simp) (((f ys).length : Int) + 1); have HS8 := Aside0.mk (HS7.out.step f5 f6); rw [List.length_append, HM.out] at f2; rw [HM.out] at f3 f4 HS8; have hret := HM.out; rw [hret]; clear hp hc f5 f6 hret)
          | ((with_reducible refine gate_build (t := 76) rfl ?_); refine build_sa rfl 3 _ rfl (P : Int) rfl ?_)
          | (go_at_call 36; (with_reducible refine (HF.out lo pp s z ys b1 u _ HS.out.ps HS.out.lp HS.out.lb (Nat.le_trans HS.out.lw HS.out.ch.size) HFU.out HLN.out.1).mono ?_); rintro e w7 ⟨b2, rfl, hp, hc⟩; have HS5 := Aside0.mk (HS.out.step hp hc); obtain ⟨cap2, g5, _⟩ := HS5.out.k2; rw [HM.out] at g5; clear hp hc)
          | ((with_reducible refine gate_load (t := 67) (p := 101) rfl ?_); refine load_ptc rfl 101 rfl kb 0 rfl u HC.out ?_))
        (try simp only [Exit.inBlock, Exit.then])
        refine bodyPost_ret (results_none rfl _ _ _) rfl ?_
        exact ⟨b3, rfl, by rw [HY2.out]; exact HS8.out.ps, HS8.out.ch⟩
      · rw [if_neg cM] at hy
        have HY2 := Aside0.mk hy
        have e3 : decide ((P : Int) < (M : Int)) = false := decide_eq_false (by omega)
        have e4 : decide (P < M) = false := decide_eq_false cM
        clear hy hys hgy hM hP HY cM hi hin
        go_wp2_with (first
          | (go_at_call 36; (with_reducible refine (HF.out lo pp s z ys b1 u _ HS.out.ps HS.out.lp HS.out.lb (Nat.le_trans HS.out.lw HS.out.ch.size) HFU.out HLN.out.1).mono ?_); rintro e w7 ⟨b2, rfl, hp, hc⟩; have HS5 := Aside0.mk (HS.out.step hp hc); obtain ⟨cap2, g5, _⟩ := HS5.out.k2; rw [HM.out] at g5; clear hp hc)
          | ((with_reducible refine gate_load (t := 67) (p := 101) rfl ?_); refine load_ptc rfl 101 rfl kb 0 rfl u HC.out ?_))
        (try simp only [Exit.inBlock, Exit.then])
        refine bodyPost_ret (results_none rfl _ _ _) rfl ?_
        exact ⟨b2, rfl, by rw [HY2.out]; exact HS5.out.ps, HS5.out.ch⟩
end Go.Proofs.Ytclgnefeankbgaa.M
namespace Go.Proofs.Ytclgnefeankbgaa.M
open Go Go.RowKit Go.Proofs.YtclgnefeankbgaaW.PrintWords Go.Proofs.YtclgnefeankbgaaW.PrintLast Go.Proofs.YtclgnefeankbgaaW.PrintMore Hand
set_option linter.unusedVariables false
set_option linter.unusedSimpArgs false
def intsV (l : List Nat) : List Value := l.map fun k : Nat => .int .i64 (k : Int)
/-- A row of numbers in block e, of the call's own. -/
structure EN (W w : World) (pp r : Nat) (b : Option Nat) (e : Option Nat) (cap : Nat) (l : List Nat) : Prop where
  own : w.ownsRow 0 3 1 (slOf e l.length cap) l.length (intsV l)
  new : ∀ k, e = some k → W.heap.size ≤ k ∧ k < w.heap.size ∧ k ≠ pp ∧ k ≠ r ∧ b ≠ some k
section
variable {lo pp : Nat} {s : ByteArray} {z : Int} {b0 : Option Nat} {W w w' : World} {r : Nat} {v : PV} {ws : List PV} {i : Nat} {f : Pt} {xs ys : List ST} {b b' : Option Nat} {e : Option Nat} {cap : Nat} {l : List Nat}
theorem EN.nil (W w : World) (pp r : Nat) (b : Option Nat) : EN W w pp r b none 0 [] := ⟨⟨rfl, .inl ⟨rfl, rfl⟩⟩, fun k h => by cases h⟩
theorem EN.keep (h : EN W w pp r b e cap l) (hm : ∀ k, e = some k → w'.heap[k]? = w.heap[k]?) (hs : w.heap.size ≤ w'.heap.size) : EN W w' pp r b e cap l := by
  obtain ⟨⟨h1, h2⟩, h3⟩ := h
  refine ⟨⟨h1, ?_⟩, fun k hk => by obtain ⟨a1, a2, a3⟩ := h3 k hk; exact ⟨a1, by omega, a3⟩⟩
  rcases h2 with hv | ⟨g, c2, cur, hv, hb, hc, hr⟩
  · exact .inl hv
  · exact .inr ⟨g, c2, cur, hv, hb, (hm g (slOf_some hv)).trans hc, hr⟩
/-- Steps are put: the numbers stay. -/
theorem EN.step (h : EN W w pp r b e cap l) (hc : Ch pp b w w' b') : EN W w' pp r b' e cap l := by
  have h' := h.keep (w' := w') (fun k hk => hc.block k (h.new k hk).2.1 (h.new k hk).2.2.1 (h.new k hk).2.2.2.2) hc.size
  refine ⟨h'.own, fun k hk => ?_⟩
  obtain ⟨a1, a2, a3, a4, a5⟩ := h'.new k hk
  refine ⟨a1, a2, a3, a4, fun e2 => ?_⟩
  rcases hc.own with ho | ho
  · exact a5 (ho ▸ e2)
  · have := ho k e2
    have := (h.new k hk).2.1
    omega
/-- The numbers' block alone changes: the pattern stays. -/
theorem CD.grow (h : CD lo pp s z b0 W w r v ws i f xs b) (hm : ∀ k, k < w.heap.size → e ≠ some k → w'.heap[k]? = w.heap[k]?) (hn : ∀ k, e = some k → W.heap.size ≤ k ∧ k ≠ pp ∧ k ≠ r ∧ b ≠ some k) (g1 : w'.os = w.os) (g2 : w'.tape = w.tape) (g3 : w'.output = w.output) (g4 : w.heap.size ≤ w'.heap.size) : CD lo pp s z b0 W w' r v ws i f xs b := by
  have hlt := h.ps.lt
  have hl3 := blk_lt h.h3
  have hw := h.ch.size
  have key : ∀ k, k < lo → k < w.heap.size → w'.heap[k]? = w.heap[k]? := fun k hk hkw => hm k hkw (fun e2 => by have := (hn k e2).1; have := h.lw; omega)
  refine ⟨h.ps.move fun k hk hor => hm k hk (fun e2 => ?_), ⟨g1.trans h.ch.os, g2.trans h.ch.tape, g3.trans h.ch.output, Nat.le_trans hw g4, fun k hk hp hb => (hm k (by omega) (fun e2 => by have := (hn k e2).1; omega)).trans (h.ch.block k hk hp hb), h.ch.own⟩, (hm r hl3 (fun e2 => (hn r e2).2.2.1 rfl)).trans h.h3, h.lr, h.nr, h.br, h.lp, h.lb, h.lw, h.row.move key, h.fv.move key⟩
  rcases hor with hor | hor
  · exact (hn k e2).2.1 hor
  · exact (hn k e2).2.2.2 hor
theorem own_int {base n : Nat} {x : Value} {xs : List Value} (h : w.ownsRow base 3 1 x n xs) : ∃ b cap, x = slOf b n cap := by
  rcases h.2 with ⟨hv, h0⟩ | ⟨g, cap, cur, hv, _⟩
  · exact ⟨none, 0, by rw [hv, h0]; rfl⟩
  · exact ⟨some g, cap, hv⟩
/-- A number's row of one is laid: what an append asks and gives. -/
theorem EN.join {w1 : World} (h : EN W w pp r b e cap l) (hcd : CD lo pp s z b0 W w r v ws i f xs b) (n : Nat) (hW : w1 = w.alloc (.cells #[.int .i64 (n : Int)] 3)) :
    w1.ownsRow 0 3 1 (slOf e l.length cap) l.length (intsV l) ∧ (∀ j u, [Value.int .i64 (n : Int)][j]? = some u → w1.cell? ((⟨w.heap.size, 0, none⟩ : Addr).add j) = some u) ∧
      ∀ x w', w'.ownsRow 0 3 1 x (l.length + 1) (intsV l ++ [.int .i64 (n : Int)]) → w1.grownBy w' (slOf e l.length cap).ownBlock → (x.ownBlock = (slOf e l.length cap).ownBlock ∨ x.ownBlock = some w1.heap.size) → ∃ e' cap', x = slOf e' (l.length + 1) cap' ∧ EN W w' pp r b e' cap' (l ++ [n]) ∧ CD lo pp s z b0 W w' r v ws i f xs b := by
  have hb2 : Below w.heap.size w w1 := by rw [hW]; exact below_alloc (Below.refl _ _) _
  have hnew : w1.heap[w.heap.size]? = some (.cells #[.int .i64 (n : Int)] 3 (0, 0)) := by rw [hW]; exact blk_new w _
  have hs1 := hb2.size
  have h1 := h.keep (w' := w1) (fun k hk => hb2.block k (h.new k hk).2.1) hb2.size
  have hcd1 := hcd.call hb2
  have hw := hcd.ch.size
  have hlt := hcd.ps.lt
  have hl3 := blk_lt hcd.h3
  refine ⟨h1.own, fun j u hj => ?_, fun x w' hown hgr hat => ?_⟩
  · have h0 := blk_cell hnew j
    have ea : ((⟨w.heap.size, 0, none⟩ : Addr).add j) = ⟨w.heap.size, j, none⟩ := by unfold Addr.add; split <;> simp_all
    rw [ea, h0, ← hj]
    simp
  · obtain ⟨e', cap', rfl⟩ := own_int hown
    rw [slOf_own] at hat hgr
    rw [slOf_own] at hat
    have hgs := hgr.size
    have hn1 : ∀ k, e = some k → W.heap.size ≤ k ∧ k ≠ pp ∧ k ≠ r ∧ b ≠ some k := fun k hk => by obtain ⟨a1, a2, a3, a4, a5⟩ := h1.new k hk; exact ⟨a1, a3, a4, a5⟩
    refine ⟨e', cap', rfl, ⟨?_, fun k hk => ?_⟩, hcd1.grow (e := e) (fun k hk he => hgr.block k hk (fun e2 => he e2.symm)) hn1 hgr.os hgr.tape hgr.output hgr.size⟩
    · have el : (l ++ [n]).length = l.length + 1 := by simp
      have ei : intsV (l ++ [n]) = intsV l ++ [.int .i64 (n : Int)] := by unfold intsV; simp
      rw [el, ei]
      exact hown
    · rcases hat with hat | hat
      · obtain ⟨a1, a2, a3, a4, a5⟩ := h1.new k (hat ▸ hk)
        exact ⟨a1, by omega, a3, a4, a5⟩
      · rw [hk] at hat
        cases hat
        have hbl := fun hk => hcd1.ps.blt (k := w1.heap.size) hk
        have hlt1 : w1.heap.size < w'.heap.size := by
          rcases hown.2 with ⟨hv, _⟩ | ⟨g, c2, cur, hv, _, hc, _⟩
          · rw [hk] at hv; unfold slOf at hv; cases hv
          · have := slOf_some hv
            rw [hk] at this
            cases this
            exact (Array.getElem?_eq_some_iff.1 hc).1
        exact ⟨by omega, hlt1, by omega, by omega, fun e2 => by have := hbl e2; omega⟩
end
end Go.Proofs.Ytclgnefeankbgaa.M
namespace Go.Proofs.Ytclgnefeankbgaa.M
open Go Go.RowKit Go.Proofs.YtclgnefeankbgaaW.PrintWords Go.Proofs.YtclgnefeankbgaaW.PrintLast Go.Proofs.YtclgnefeankbgaaW.PrintMore Hand
attribute [local go_sem] Oper.semAt_some max2_int min2_int max_two min_two max_three min_three max_four min_four
set_option linter.unusedVariables false
set_option linter.unusedSimpArgs false
theorem int_info : (Try.prog.info? 3).map (fun i => (i.zero, i.size, i.bytes)) = some (some (.int .i64 0), 1, 8) := by kernel_rfl
theorem int_parts : ∃ i, Try.prog.info? 3 = some i ∧ i.zero = some (.int .i64 0) ∧ i.size = 1 ∧ i.bytes = 8 := by
  obtain ⟨i, hi, he⟩ := Option.map_eq_some_iff.1 int_info
  have h0 := congrArg Prod.fst he
  have h1 := congrArg Prod.snd he
  exact ⟨i, hi, h0, congrArg Prod.fst h1, congrArg Prod.snd h1⟩
section
variable {ops : Array Oper} {rest : List Oper} {o : Oper} {a : Act} {Q : Exit → Act → World → Prop} {w : World}
theorem gate_app {s x : Operand} {t u : TypeId} (_ho : o.op = .call { callee := .builtin .append, args := #[s, x], argTypes := #[t, u] }) (h : wpList Try.prog ops Q (o :: rest) a w) : wpList Try.prog ops Q (o :: rest) a w := h
theorem row_int (hg : o.guard = none) (x : Operand) (hop : o.op = .buildSlice 30 1 #[(0, x)]) (n : Int) (hx : a.eval x = .int .i64 n) (hK : ∀ nb w', nb = w.heap.size → w' = w.alloc (.cells #[.int .i64 n] 3) → wpList Try.prog ops Q rest (a.put o.dst (slOf (some nb) 1 1)) w') : wpList Try.prog ops Q (o :: rest) a w := by
  obtain ⟨i, hi, hz, hs, _⟩ := int_parts
  refine wpList_buildSlice hg 30 3 1 _ hop #[.int .i64 n] i (.int .i64 0) Try.underlying30 hi hz (by rw [hs]; decide) (by rw [hs]; decide) ?_ (hK _ _ rfl rfl)
  rw [hs]
  simp only [List.map_toArray, List.map_cons, List.map_nil, hx]
  kernel_rfl
theorem append_int (hg : o.guard = none) (s x : Operand) (ho : o.op = .call { callee := .builtin .append, args := #[s, x], argTypes := #[30, 30] }) (v : Value) (n : Nat) (xs : List Value) (hs : a.eval s = v) (hown : w.ownsRow 0 3 1 v n xs)
    (ad : Addr) (u : Value) (hx : a.eval x = .slice (some ad) 1 1) (hnews : ∀ j y, [u][j]? = some y → w.cell? (ad.add j) = some y) (h1 : u.oneCell' = true) (hn : n ≤ 2000)
    (h : ∀ v' w', w'.ownsRow 0 3 1 v' (n + 1) (xs ++ [u]) → w.grownBy w' v.ownBlock → (v'.ownBlock = v.ownBlock ∨ v'.ownBlock = some w.heap.size) → wpList Try.prog ops Q rest (a.put o.dst v') w') : wpList Try.prog ops Q (o :: rest) a w := by
  refine wpList_plain hg fun K hK => ?_
  obtain ⟨i, hi, hz, hsz, hby⟩ := int_parts
  obtain ⟨v', w', hr, h2, h3, h4, h5⟩ := run_append_own_at (P := Try.prog) w 0 30 o.type 3 i (.int .i64 0) 1 8 Try.underlying30 hi hz hsz hby rfl (by decide) v n xs hown ad 1 1 [u] rfl hnews (by simpa using h1) (by unfold maxLen; omega) (by omega) (Nat.zero_le _)
  unfold Oper.wp
  simp [execOp, ho, resolve, invoke, builtin, hs, hx, hr, Result.andThen]
  exact hK _ _ (h v' w' h2 h3 h5)
end
/-- A number read out of the row. -/
theorem EN.at_ {W w : World} {pp r : Nat} {b e : Option Nat} {cap : Nat} {l : List Nat} (h : EN W w pp r b e cap l) {i k : Nat} (hi : l[i]? = some k) : ∃ eb, e = some eb ∧ w.cell? ⟨eb, i, none⟩ = some (.int .i64 (k : Int)) := by
  have hil := (List.getElem?_eq_some_iff.1 hi).1
  obtain ⟨⟨h1, h2⟩, _⟩ := h
  rcases h2 with ⟨_, h0⟩ | ⟨eb, c2, cur, hv, _, hc, _, _, hsz, htk⟩
  · omega
  · refine ⟨eb, slOf_some hv, ?_⟩
    rw [blk_cell hc]
    have h9 : (intsV l)[i]? = some (.int .i64 (k : Int)) := by unfold intsV; rw [List.getElem?_map, hi]; rfl
    rw [← htk, List.getElem?_take] at h9
    split at h9
    · rw [Array.getElem?_toList] at h9
      exact h9
    · cases h9
end Go.Proofs.Ytclgnefeankbgaa.M
