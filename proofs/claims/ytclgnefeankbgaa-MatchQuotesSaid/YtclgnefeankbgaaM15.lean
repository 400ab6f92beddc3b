/- Parts one behind the other. Conditions: as each theorem says. -/
import Derived.Test.YtclgnefeankbgaaM12
import Derived.Deep.RegionLaw
import Derived.RegionDies
import Derived.Recover
import Derived.Laws.Pointers
namespace Go.Proofs.Ytclgnefeankbgaa.M
open Go Go.RowKit Go.Proofs.YtclgnefeankbgaaW.PrintWords Go.Proofs.YtclgnefeankbgaaW.PrintLast Go.Proofs.YtclgnefeankbgaaW.PrintMore Hand
attribute [local go_sem] Oper.semAt_some max2_int min2_int max_two min_two max_three min_three max_four min_four
set_option linter.unusedVariables false
set_option linter.unusedSimpArgs false
/-- The parts up to a bar, a bracket or the end. -/
def catL (rep : Nat → Rs Pt) (s : ByteArray) : Nat → Nat → Pt → Rs Pt
  | 0, p, f => .ok f p
  | n + 1, p, f =>
    if p < s.size ∧ seeP s p ≠ 124 ∧ seeP s p ≠ 41 then
      match rep p with
      | .bad k => .bad k
      | .ok t q => catL rep s n q (f.app t)
    else .ok f p
def catT (f : Pt) : Pt := .cons 3 C4.nil 0 0 false f .nil
def catV (b : Option Nat) (n cap : Nat) : PV := ⟨3, C4.nil, 0, 0, false, b, n, cap⟩
def catEnd : Rs Pt → Rs Pt
  | .bad k => .bad k
  | .ok f q => .ok (catT f) q
def catR (rep : Nat → Rs Pt) (s : ByteArray) (p : Nat) : Rs Pt := catEnd (catL rep s (s.size + 1 - p) p .nil)
theorem catL_ok {rep : Nat → Rs Pt} {s : ByteArray} (hr : ∀ p t q, p < s.size → rep p = .ok t q → p < q ∧ q ≤ s.size) : ∀ (n p : Nat) (f u : Pt) (q : Nat), p ≤ s.size → catL rep s n p f = .ok u q → p ≤ q ∧ q ≤ s.size
  | 0, p, f, u, q, hp, h => by
    rw [catL] at h
    cases h
    omega
  | n + 1, p, f, u, q, hp, h => by
    rw [catL] at h
    by_cases c : p < s.size ∧ seeP s p ≠ 124 ∧ seeP s p ≠ 41
    · rw [if_pos c] at h
      cases h1 : rep p with
      | bad k => rw [h1] at h; cases h
      | ok t q1 =>
        rw [h1] at h
        simp only at h
        have h2 := hr p t q1 c.1 h1
        have := catL_ok hr n q1 _ u q h2.2 h
        omega
    · rw [if_neg c] at h
      cases h
      omega
theorem catR_ok {rep : Nat → Rs Pt} {s : ByteArray} {p q : Nat} {t : Pt} (hr : ∀ p t q, p < s.size → rep p = .ok t q → p < q ∧ q ≤ s.size) (hp : p ≤ s.size) (h : catR rep s p = .ok t q) : p ≤ q ∧ q ≤ s.size := by
  unfold catR at h
  cases h1 : catL rep s (s.size + 1 - p) p .nil with
  | bad k => rw [h1] at h; cases h
  | ok f q1 =>
    rw [h1] at h
    have := catL_ok hr _ _ _ _ _ hp h1
    unfold catEnd at h
    cases h
    omega
theorem CT.cell {g p : Nat} {w W : World} {s : ByteArray} {fold : Bool} {L : List (Nat × TypeId × Array Value)} {f : Pt} {v : PV} (h : CT g w W s p fold L f v) (i : Nat) {b : Nat} {T : TypeId} {cs : Array Value} (hi : L[i]? = some (b, T, cs)) (j : Nat) (u : Value) (cs' : Array Value) (he : cs' = cs.set! j u) : CT g w (W.setCell ⟨b, j, none⟩ u) s p fold (L.set i (b, T, cs')) f v := h.set i hi (by
  unfold VAt
  rw [he]
  exact blk_set (h.q.at_ i _ _ _ hi).2 j u) ((Mv.refl b W).set j u)
theorem CT.drewN {g p : Nat} {w W : World} {s : ByteArray} {fold : Bool} {L : List (Nat × TypeId × Array Value)} {f : Pt} {v : PV} (h : CT g w W s p fold L f v) (n : Nat) : CT g w (W.drewN n) s p fold L f v := h.call (pw_below_drewN (Below.refl _ _) n)
theorem CT.drew {g p : Nat} {w W : World} {s : ByteArray} {fold : Bool} {L : List (Nat × TypeId × Array Value)} {f : Pt} {v : PV} (h : CT g w W s p fold L f v) : CT g w W.drew s p fold L f v := h.call (below_drew1 (Below.refl _ _))
theorem CT.c0 {g p : Nat} {w W : World} {s : ByteArray} {fold : Bool} {L : List (Nat × TypeId × Array Value)} {f : Pt} {v : PV} (h : CT g w W s p fold L f v) : W.cell? ⟨g, 0, none⟩ = some (.string s) := h.q.c0
theorem CT.c1 {g p : Nat} {w W : World} {s : ByteArray} {fold : Bool} {L : List (Nat × TypeId × Array Value)} {f : Pt} {v : PV} (h : CT g w W s p fold L f v) : W.cell? ⟨g, 1, none⟩ = some (.int .i64 (p : Int)) := h.q.c1
theorem step_append_pt2 {ops : Array Oper} {o : Oper} {a : Act} {w : World} {K : Act → World → Prop} {Q : Exit → Act → World → Prop} {E : Prop} (hg : o.guard = none) (s x : Operand)
    (ho : o.op = .call { callee := .builtin .append, args := #[s, x], argTypes := #[65, 65] }) (v : Value) (n : Nat) (xs : List Value) (hs : a.eval s = v) (hown : w.ownsRow 0 67 9 v n xs)
    (ad : Addr) (news : List Value) (hx : a.eval x = .slice (some ad) 1 1) (hl : news.length = 9) (hnews : ∀ j u, news[j]? = some u → w.cell? (ad.add j) = some u) (h1 : ∀ u ∈ news, u.oneCell' = true) (hn : n ≤ 200)
    (h : ∀ v' w', w'.ownsRow 0 67 9 v' (n + 1) (xs ++ news) → w.grownBy w' v.ownBlock → (v'.ownBlock = v.ownBlock ∨ v'.ownBlock = some w.heap.size) → K (a.put o.dst v') w') : if Region.wanted o (yielded ops a.tmps) = true then Oper.wp Try.prog o a w K Q else E := by
  have hw : Region.wanted o (yielded ops a.tmps) = true := by simp [Region.wanted, hg]
  rw [if_pos hw]
  exact step_append_pt s x ho v n xs hs hown ad news hx hl hnews h1 hn h
set_option maxHeartbeats 8000000 in
set_option maxRecDepth 100000 in
theorem cat.calls (g p : Nat) (s : ByteArray) (fold : Bool) (rep : Nat → Rs Pt) (W : World) (h : RS W g s p fold) (hs : s.size ≤ 200) (hp : p ≤ s.size) (hr0 : ∀ p t q, p < s.size → rep p = .ok t q → p < q ∧ q ≤ s.size) (hrep : ∀ q, p ≤ q → q < s.size → ∀ W', RS W' g s q fold → Calls Try.prog 70 #[.pointer (some ⟨g, 0, none⟩)] W' fun e w' => TPost g s fold W' (rep q) e w') :
    Calls Try.prog 65 #[.pointer (some ⟨g, 0, none⟩)] W fun e w' => TPost g s fold W (catR rep s p) e w' := by
  have HQ := Aside0.mk (QT.nil h)
  obtain ⟨r, hr⟩ : ∃ r, catR rep s p = r := ⟨_, rfl⟩
  rw [hr]
  unfold catR at hr
  obtain ⟨L, hL⟩ : ∃ L, catL rep s (s.size + 1 - p) p .nil = L := ⟨_, rfl⟩
  rw [hL] at hr
  have HL := Aside0.mk hL
  have HR := Aside0.mk hr
  have HRP := Aside0.mk hrep
  have HRO := Aside0.mk hr0
  have HSZ := Aside0.mk hs
  clear h hr hL hrep hr0
  go_enter Try.func65, Try.ntmps65
  go_wp2_with (first
    | ((with_reducible refine gate_storeT (t := 67) (p := 3) rfl ?_); refine store_pt rfl 3 _ rfl _ rfl PV.nil (leafV 3 C4.nil) rfl (Y2.out.at_ 1 _ _ _ rfl).2 ?_; intro w9 hc hm; have Y3 := Aside0.mk (Y2.out.set 1 rfl hc hm); clear hc hm)
    | ((with_reducible refine gate_alloc (t := 67) (d := 3) rfl rfl ?_); refine alloc_pt rfl rfl rfl ?_; intro r3 w9 hg1 hc1 hb1; have Y2 := Aside0.mk (Y1.out.push hg1 hc1 hb1); clear hg1 hc1 hb1)
    | ((with_reducible refine gate_build (t := 67) rfl ?_); refine build_k rfl 3 rfl ?_)
    | ((with_reducible refine gate_alloc (t := 67) (d := 2) rfl rfl ?_); refine alloc_pt rfl rfl rfl ?_; intro r2 w9 hg1 hc1 hb1; have Y1 := Aside0.mk (HQ.out.push hg1 hc1 hb1); clear hg1 hc1 hb1))
  go_simp
  go_loopg [] (s.size + 1 - p) (fun kq w' => ∃ (q : Nat) (f : Pt) (b : Option Nat) (n cap : Nat), s.size + 1 ≤ q + kq ∧ p ≤ q ∧ q ≤ s.size ∧ n ≤ q ∧ Aside0 (catL rep s kq q f = L) ∧ Aside0 (CT g W w' s q fold [(r2, 67, PV.nil.cells), (r3, 67, (catV b n cap).cells)] f (catV b n cap)))
  case atStart => exact ⟨p, .nil, none, 0, 0, by omega, by omega, hp, by omega, HL, ⟨CT.nil Y3.out rfl rfl rfl⟩⟩
  case round =>
    clear HL HQ
    obtain ⟨q, f, b, n, cap, hq, hpq, hqs, hnq, HB0, HQ⟩ := hrel
    obtain ⟨k, rfl⟩ : ∃ k, gk = k + 1 := ⟨gk - 1, by omega⟩
    have hb := HB0.out
    rw [catL] at hb
    clear HB0
    have k0 := HQ.out.c0
    have k1 := HQ.out.c1
    by_cases m1 : q < s.size
    · have i0 : (0 : Int) ≤ (q : Int) := by omega
      have i1 : (q : Int) < (s.size : Int) := by omega
      have i2 : decide ((q : Int) < (s.size : Int)) = true := decide_eq_true i1
      have i3 : decide (q < s.size) = true := decide_eq_true m1
      have hse : seeP s q = ((s[q].toNat : Int)) := (if_pos m1).trans (bt_at m1)
      rw [hse] at hb
      obtain ⟨x, hx⟩ : ∃ x, ((s[q].toNat : Int)) = x := ⟨_, rfl⟩
      have hx2 := hx
      rw [hx] at hb
      by_cases m2 : x = 124
      · rw [if_neg (fun h => h.2.1 m2)] at hb
        have x1 : (x != 124) = false := by simp [m2]
        clear hse hx m2
        have hr2 := HR.out
        rw [← hb] at hr2
        unfold catEnd at hr2
        have HR2 := Aside0.mk hr2
        clear hb hr2
        go_wp2
        go_quiet (fail)
        have E1 := Aside0.mk ((HQ.out.drewN nq).tree (k := 3) (c := C4.nil) (le := 0) (mo := 0) (nu := false) ⟨rfl, rfl, rfl, rfl, rfl⟩)
        go_wp2_with (first
          | ((with_reducible refine gate_storeT (t := 67) (p := 2) rfl ?_); refine store_pt rfl 2 _ rfl _ rfl PV.nil (catV b n cap) rfl (E1.out.at_ 0 _ _ _ rfl).2 ?_; intro w9 hc hm; have Y4 := Aside0.mk (E1.out.set 0 rfl hc hm); clear hc hm)
          | ((with_reducible refine gate_load (t := 67) (p := 3) rfl ?_); refine load_pt rfl 3 rfl _ rfl (catV b n cap) (E1.out.at_ 1 _ _ _ rfl).2 ?_))
        (try simp only [Exit.inBlock, Exit.then])
        refine bodyPost_ret (results_pt rfl _ _ rfl (v := catV b n cap) (Y4.out.at_ 0 _ _ _ rfl).2) rfl ?_
        exact Y4.out.post 0 rfl HR2.out.symm
      have x1 : (x != 124) = true := by simp [m2]
      by_cases m3 : x = 41
      · rw [if_neg (fun h => h.2.2 m3)] at hb
        have x2 : (x != 41) = false := by simp [m3]
        clear hse hx m2 m3
        have hr2 := HR.out
        rw [← hb] at hr2
        unfold catEnd at hr2
        have HR2 := Aside0.mk hr2
        clear hb hr2
        go_wp2
        go_quiet (fail)
        have E1 := Aside0.mk ((HQ.out.drewN nq).tree (k := 3) (c := C4.nil) (le := 0) (mo := 0) (nu := false) ⟨rfl, rfl, rfl, rfl, rfl⟩)
        go_wp2_with (first
          | ((with_reducible refine gate_storeT (t := 67) (p := 2) rfl ?_); refine store_pt rfl 2 _ rfl _ rfl PV.nil (catV b n cap) rfl (E1.out.at_ 0 _ _ _ rfl).2 ?_; intro w9 hc hm; have Y5 := Aside0.mk (E1.out.set 0 rfl hc hm); clear hc hm)
          | ((with_reducible refine gate_load (t := 67) (p := 3) rfl ?_); refine load_pt rfl 3 rfl _ rfl (catV b n cap) (E1.out.at_ 1 _ _ _ rfl).2 ?_))
        (try simp only [Exit.inBlock, Exit.then])
        refine bodyPost_ret (results_pt rfl _ _ rfl (v := catV b n cap) (Y5.out.at_ 0 _ _ _ rfl).2) rfl ?_
        exact Y5.out.post 0 rfl HR2.out.symm
      have x2 : (x != 41) = true := by simp [m3]
      rw [if_pos ⟨m1, m2, m3⟩] at hb
      cases hE : rep q with
      | bad n9 =>
        rw [hE] at hb
        simp only at hb
        have hr2 := HR.out
        rw [← hb] at hr2
        unfold catEnd at hr2
        have HR2 := Aside0.mk hr2
        have HA : Aside0 (∀ W', RS W' g s q fold → Calls Try.prog 70 #[.pointer (some ⟨g, 0, none⟩)] W' fun e w' => Bad n9 e ∧ Mv g W' w') := ⟨fun W' h => (HRP.out q hpq m1 W' h).mono fun e w' h => h.bad_elim hE⟩
        clear hb hr2 hE
        clear m2 m3 hse hx
        go_wp2
        go_quiet (fail)
        have hD1 := HQ.out.drewN nq
        obtain ⟨W0, hW0⟩ : ∃ W0, wr.drewN nq = W0 := ⟨_, rfl⟩
        rw [hW0] at hD1
        rw [hW0]
        have D1 := Aside0.mk hD1
        clear hW0 hD1
        have D2 := Aside0.mk D1.out.drew
        have K1 : Aside0 (W0.cell? ⟨r3, 8, none⟩ = some (.slice (b.map fun g => ⟨g, 0, none⟩) n cap)) := ⟨D1.out.q.cellAt 1 8 (b := r3) rfl⟩
        have KD := K1.out
        have HN2 : Aside0 (n ≤ 200) := ⟨by have := HSZ.out; omega⟩
        go_wp2
        go_region_dies
        all_goals (go_at_call 70; (with_reducible refine (HA.out _ D2.out.q.rs).mono ?_); rintro e w2 ⟨he, hm1⟩; unfold Bad at he; subst he; have HM := Aside0.mk (D2.out.q.mv.trans hm1); clear hm1; exact ⟨rfl, TPost.bad HR2.out.symm HM.out⟩)
      | ok t q2 =>
        rw [hE] at hb
        simp only at hb
        have hro := HRO.out q t q2 m1 hE
        have HB1 := Aside0.mk hb
        have HA : Aside0 (∀ W', RS W' g s q fold → Calls Try.prog 70 #[.pointer (some ⟨g, 0, none⟩)] W' fun e w' => ∃ v : PV, e = .returned (.agg v.cells) ∧ FV w' (fun b => W'.heap.size ≤ b) t [v] ∧ RS w' g s q2 fold ∧ Mv g W' w') := ⟨fun W' h => (HRP.out q hpq m1 W' h).mono fun e w' h => h.ok_elim hE⟩
        clear hb hE
        clear m2 m3 hse hx
        go_wp2
        go_quiet (fail)
        have hD1 := HQ.out.drewN nq
        obtain ⟨W0, hW0⟩ : ∃ W0, wr.drewN nq = W0 := ⟨_, rfl⟩
        rw [hW0] at hD1
        rw [hW0]
        have D1 := Aside0.mk hD1
        clear hW0 hD1
        have D2 := Aside0.mk D1.out.drew
        have K1 : Aside0 (W0.cell? ⟨r3, 8, none⟩ = some (.slice (b.map fun g => ⟨g, 0, none⟩) n cap)) := ⟨D1.out.q.cellAt 1 8 (b := r3) rfl⟩
        have KD := K1.out
        have HN2 : Aside0 (n ≤ 200) := ⟨by have := HSZ.out; omega⟩
        go_wp2
        go_region_law (first
          | (go_simp; go_at_call 70; (with_reducible refine (HA.out _ D2.out.q.rs).mono ?_); rintro e w2 ⟨v1, rfl, ht1, hr1, hm1⟩; obtain ⟨xs, ho, hn, hj⟩ := D2.out.join hr1 hm1 ht1 rfl; have HO := Aside0.mk ho; have HN := Aside0.mk hn; have HJ := Aside0.mk hj; have K2 : Aside0 (w2.cell? ⟨r3, 8, none⟩ = some (.slice (b.map fun g => ⟨g, 0, none⟩) n cap)) := ⟨(D2.out.rd hr1 hm1).q.cellAt 1 8 (b := r3) rfl⟩; have K3 : Aside0 ((w2.alloc (.cells v1.cells 67)).cell? ⟨r3, 8, none⟩ = some (.slice (b.map fun g => ⟨g, 0, none⟩) n cap)) := ⟨((D2.out.rd hr1 hm1).call (below_alloc (Below.refl _ _) _)).q.cellAt 1 8 (b := r3) rfl⟩; have kx2 := K2.out; have kx3 : (w2.alloc (.cells #[.int .i64 v1.k, .int .u64 v1.c.a, .int .u64 v1.c.b, .int .u64 v1.c.c, .int .u64 v1.c.d, .int .i64 v1.le, .int .i64 v1.mo, .bool v1.nu, .slice (v1.b.map fun g => ⟨g, 0, none⟩) v1.n v1.cap] 67)).cell? ⟨r3, 8, none⟩ = some (.slice (b.map fun g => ⟨g, 0, none⟩) n cap) := K3.out; rw [agg9 v1]; clear ho hn hj ht1 hr1 hm1)
          | (refine step_append_pt2 rfl _ _ rfl _ n xs rfl HO.out ⟨w2.heap.size, 0, none⟩ v1.cells.toList rfl rfl HN.out (one9 v1) HN2.out ?_; intro x w4 h1 h2 h3; obtain ⟨b', cap', hx9, hc⟩ := HJ.out x w4 h1 h2 h3; have hx8 : x = .slice (b'.map fun g => ⟨g, 0, none⟩) (n + 1) cap' := hx9; subst hx8; have C4 := Aside0.mk hc; have K4 : Aside0 (w4.cell? ⟨r3, 8, none⟩ = some (.slice (b.map fun g => ⟨g, 0, none⟩) n cap)) := ⟨hc.q.cellAt 1 8 (b := r3) rfl⟩; have k8 := K4.out; have f8 := hc.q.cellFz 1 8 (b := r3) rfl; clear h1 h2 h3 hx9 hc))
        all_goals (
          go_wp2
          go_roundg k
          case measure => omega
          case rel => exact ⟨q2, f.app t, b', n + 1, cap', by omega, by omega, by omega, by omega, HB1, ⟨C4.out.cell 1 (b := r3) rfl 8 _ (catV b' (n + 1) cap').cells rfl⟩⟩)
    rw [if_neg (fun h => m1 h.1)] at hb
    have i2 : decide ((q : Int) < (s.size : Int)) = false := decide_eq_false (by omega)
    have i3 : decide (q < s.size) = false := decide_eq_false m1
    have hr2 := HR.out
    rw [← hb] at hr2
    unfold catEnd at hr2
    have HR2 := Aside0.mk hr2
    clear hb hr2
    go_wp2
    go_quiet (fail)
    have E1 := Aside0.mk ((HQ.out.drewN nq).tree (k := 3) (c := C4.nil) (le := 0) (mo := 0) (nu := false) ⟨rfl, rfl, rfl, rfl, rfl⟩)
    go_wp2_with (first
      | ((with_reducible refine gate_storeT (t := 67) (p := 2) rfl ?_); refine store_pt rfl 2 _ rfl _ rfl PV.nil (catV b n cap) rfl (E1.out.at_ 0 _ _ _ rfl).2 ?_; intro w9 hc hm; have Y6 := Aside0.mk (E1.out.set 0 rfl hc hm); clear hc hm)
      | ((with_reducible refine gate_load (t := 67) (p := 3) rfl ?_); refine load_pt rfl 3 rfl _ rfl (catV b n cap) (E1.out.at_ 1 _ _ _ rfl).2 ?_))
    (try simp only [Exit.inBlock, Exit.then])
    refine bodyPost_ret (results_pt rfl _ _ rfl (v := catV b n cap) (Y6.out.at_ 0 _ _ _ rfl).2) rfl ?_
    exact Y6.out.post 0 rfl HR2.out.symm
end Go.Proofs.Ytclgnefeankbgaa.M
namespace Go.Proofs.Ytclgnefeankbgaa.M
open Go Go.RowKit Go.Proofs.YtclgnefeankbgaaW.PrintWords Go.Proofs.YtclgnefeankbgaaW.PrintLast Go.Proofs.YtclgnefeankbgaaW.PrintMore Hand
attribute [local go_sem] Oper.semAt_some max2_int min2_int max_two min_two max_three min_three max_four min_four
set_option linter.unusedVariables false
set_option linter.unusedSimpArgs false
/-- The alternatives behind the first one. -/
def altL (cat : Nat → Rs Pt) (s : ByteArray) : Nat → Nat → Pt → Rs Pt
  | 0, p, f => .ok f p
  | n + 1, p, f =>
    if takeP s p 124 = true then
      match cat (p + 1) with
      | .bad k => .bad k
      | .ok t q => altL cat s n q (f.app t)
    else .ok f p
def altT (f : Pt) : Pt := .cons 4 C4.nil 0 0 false f .nil
def altV (b : Option Nat) (n cap : Nat) : PV := ⟨4, C4.nil, 0, 0, false, b, n, cap⟩
def altEnd : Rs Pt → Rs Pt
  | .bad k => .bad k
  | .ok f q => .ok (if f.len = 1 then f else altT f) q
def altB (cat : Nat → Rs Pt) (s : ByteArray) (p : Nat) : Rs Pt :=
  match cat p with
  | .bad k => .bad k
  | .ok t q => altEnd (altL cat s (s.size + 1 - q) q t)
theorem altL_ok {cat : Nat → Rs Pt} {s : ByteArray} (hr : ∀ p t q, p ≤ s.size → cat p = .ok t q → p ≤ q ∧ q ≤ s.size) : ∀ (n p : Nat) (f u : Pt) (q : Nat), p ≤ s.size → altL cat s n p f = .ok u q → p ≤ q ∧ q ≤ s.size
  | 0, p, f, u, q, hp, h => by
    rw [altL] at h
    cases h
    omega
  | n + 1, p, f, u, q, hp, h => by
    rw [altL] at h
    by_cases c : takeP s p 124 = true
    · rw [if_pos c] at h
      have hl := takeP_lt c
      cases h1 : cat (p + 1) with
      | bad k => rw [h1] at h; cases h
      | ok t q1 =>
        rw [h1] at h
        simp only at h
        have h2 := hr (p + 1) t q1 (by omega) h1
        have := altL_ok hr n q1 _ u q h2.2 h
        omega
    · rw [if_neg c] at h
      cases h
      omega
theorem altB_ok {cat : Nat → Rs Pt} {s : ByteArray} {p q : Nat} {t : Pt} (hr : ∀ p t q, p ≤ s.size → cat p = .ok t q → p ≤ q ∧ q ≤ s.size) (hp : p ≤ s.size) (h : altB cat s p = .ok t q) : p ≤ q ∧ q ≤ s.size := by
  unfold altB at h
  cases h1 : cat p with
  | bad k => rw [h1] at h; cases h
  | ok u q1 =>
    rw [h1] at h
    simp only at h
    have h2 := hr p u q1 hp h1
    cases h3 : altL cat s (s.size + 1 - q1) q1 u with
    | bad k => rw [h3] at h; cases h
    | ok f q2 =>
      rw [h3] at h
      have := altL_ok hr _ _ _ _ _ h2.2 h3
      unfold altEnd at h
      cases h
      omega
section
variable {g p q : Nat} {w W W' : World} {s : ByteArray} {fold : Bool} {L : List (Nat × TypeId × Array Value)} {R : List (Pt × List PV)} {f t : Pt} {v v1 : PV}
theorem CT.one (h : QT g w W s p fold L R) (ht : FV W (fun b => w.heap.size ≤ b ∧ b ∉ L.map Prod.fst) t [v]) {nb : Nat} (hn : nb = W.heap.size) (hW : W' = W.alloc (.cells v.cells 67)) : CT g w W' s p fold L t (altV (some nb) 1 1) := by
  subst hn
  have hb : Below W.heap.size W W' := by rw [hW]; exact below_alloc (Below.refl _ _) _
  have h' := h.call hb
  refine ⟨⟨h'.lg, h'.rs, h'.mv, h'.at_, h'.nd, fun i t vs hi => by simp at hi⟩, [v], ⟨rfl, ⟨rfl, .inr ⟨W.heap.size, 1, v.cells, rfl, Nat.zero_le _, ?_, Nat.le_refl _, by decide, rfl, rfl⟩⟩, fun g hg => ?_⟩, ((ht.mono (Y := fun k => (w.heap.size ≤ k ∧ k ∉ L.map Prod.fst) ∧ k < W.heap.size) fun k hx hk => ⟨hx, hk⟩).move fun k _ hk => hb.block k hk).mono fun k hx _ => ⟨hx.1, fun e => ?_⟩⟩
  · rw [hW]; exact blk_new W _
  · cases hg
    exact ⟨h.mv.size, fun hmem => by have := h.lt hmem; omega⟩
  · have e : some W.heap.size = some k := e
    cases e
    have := hx.2
    omega
theorem CT.push (h : CT g w W s p fold L f v) {b : Nat} {T : TypeId} {c : Array Value} (hb : b = W.heap.size) (hc : VAt W' b T c) (hm : Below W.heap.size W W') : CT g w W' s p fold (L ++ [(b, T, c)]) f v := by
  obtain ⟨hq, ws, a1, a2⟩ := h
  have key : ∀ k, k ∉ L.map Prod.fst → k < W.heap.size → k ∉ (L ++ [(b, T, c)]).map Prod.fst := fun k hk hl hmem => by
    rw [List.map_append] at hmem
    rcases List.mem_append.1 hmem with hmem | hmem
    · exact hk hmem
    · have : k = b := by simpa using hmem
      omega
  exact ⟨hq.push hb hc hm, ws, (a1.mono (Y := fun k => w.heap.size ≤ k ∧ k ∉ (L ++ [(b, T, c)]).map Prod.fst) fun k hx hk => ⟨hx.1, key k hx.2 hk⟩).move fun k _ hk => hm.block k hk, (a2.mono (Y := fun k => (w.heap.size ≤ k ∧ k ∉ (L ++ [(b, T, c)]).map Prod.fst) ∧ v.b ≠ some k) fun k hx hk => ⟨⟨hx.1.1, key k hx.1.2 hk⟩, hx.2⟩).move fun k _ hk => hm.block k hk⟩
theorem CT.len (h : CT g w W s p fold L f v) : v.n = f.len := by
  obtain ⟨hq, ws, a1, a2⟩ := h
  rw [a1.1, FV.len a2]
theorem row_cells {ws : List PV} (hrow : RowP W (fun _ => True) v ws) {i : Nat} {u : PV} (hi : ws[i]? = some u) : ∃ kb, v.b = some kb ∧ ∀ j x, u.cells[j]? = some x → W.cell? ⟨kb, i * 9 + j, none⟩ = some x := by
  obtain ⟨h1, h2, h3⟩ := hrow
  have hil := (List.getElem?_eq_some_iff.1 hi).1
  rcases h2.2 with ⟨_, h0⟩ | ⟨kb, cap, cur, hv, _, hc, _, _, hsz, htk⟩
  · rw [h1] at h0; omega
  · refine ⟨kb, slOf_some hv, fun j x hj => ?_⟩
    have hj9 : j < 9 := (Array.getElem?_eq_some_iff.1 hj).1
    have e := blk_cell hc (i * 9 + j)
    rw [e]
    have hlen : v.n = ws.length := h1
    have hfl : ∀ (l : List PV) (i : Nat), l[i]? = some u → (flatP l)[i * 9 + j]? = some x := by
      intro l
      induction l with
      | nil => intro i h; simp at h
      | cons a l ih =>
        intro i h
        cases i with
        | zero =>
          have : a = u := by simpa using h
          subst this
          unfold flatP
          rw [List.flatMap_cons, Nat.zero_mul, Nat.zero_add, List.getElem?_append_left (by exact hj9), Array.getElem?_toList]
          exact hj
        | succ i =>
          have h' : l[i]? = some u := by simpa using h
          have := ih i h'
          unfold flatP at this ⊢
          rw [List.flatMap_cons, List.getElem?_append_right (by show 9 ≤ (i + 1) * 9 + j; omega)]
          have e9 : (i + 1) * 9 + j - a.cells.toList.length = i * 9 + j := by show (i + 1) * 9 + j - 9 = i * 9 + j; omega
          rw [e9]
          exact this
    have := hfl ws i hi
    rw [← htk, List.getElem?_take] at this
    split at this
    · rw [Array.getElem?_toList] at this
      exact this
    · cases this
theorem CT.first (h : CT g w W s p fold L f v) (hn : v.n = 1) : ∃ kb v1, v.b = some kb ∧ (∀ j x, v1.cells[j]? = some x → W.cell? ⟨kb, j, none⟩ = some x) ∧ QT g w W s p fold L [(f, [v1])] := by
  obtain ⟨hq, ws, a1, a2⟩ := h
  have hl := a1.1
  rw [hn] at hl
  obtain ⟨v1, rfl⟩ := List.length_eq_one_iff.1 hl.symm
  obtain ⟨kb, hb, hc⟩ := row_cells (a1.mono (Y := fun _ => True) fun _ _ _ => trivial) (i := 0) (u := v1) rfl
  exact ⟨kb, v1, hb, fun j x hj => by have := hc j x hj; rw [Nat.zero_mul, Nat.zero_add] at this; exact this, hq.more (a2.mono fun k hk _ => hk.1)⟩
end
theorem load9c {W : World} {g o : Nat} {v : PV} (c : ∀ (j : Nat) (x : Value), v.cells[j]? = some x → W.cell? ⟨g, o + j, none⟩ = some x) : (loadVar 67 ⟨g, o, none⟩).run Try.prog W = .ok (.agg v.cells) W := by
  have c0 := c 0 _ rfl
  have c1 := c 1 _ rfl
  have c2 := c 2 _ rfl
  have c3 := c 3 _ rfl
  have c4 := c 4 _ rfl
  have c5 := c 5 _ rfl
  have c6 := c 6 _ rfl
  have c7 := c 7 _ rfl
  have c8 := c 8 _ rfl
  simp only [Nat.add_zero] at c0
  simp [loadVar, Sem.run_bind, ptAgg W, ptSize W, loadCells, c0, c1, c2, c3, c4, c5, c6, c7, c8, go_sem]
  rfl
section
variable {ops : Array Oper} {rest : List Oper} {o : Oper} {a : Act} {Q : Exit → Act → World → Prop} {w : World}
theorem load_ptc (hg : o.guard = none) (p : Tmp) (hop : o.op = .load 67 (.tmp p)) (g i : Nat) (hp : a.eval (.tmp p) = .pointer (some ⟨g, i, none⟩)) (v : PV) (h : ∀ (j : Nat) (x : Value), v.cells[j]? = some x → w.cell? ⟨g, i + j, none⟩ = some x) (hK : wpList Try.prog ops Q rest (a.put o.dst (.agg v.cells)) w) : wpList Try.prog ops Q (o :: rest) a w := by
  refine wpList_plain hg fun K' hK' => ?_
  have hl := load9c h
  have hrun : (Instr.loadAt 67 (.pointer (some ⟨g, i, none⟩))).run Try.prog w = .ok (.agg v.cells) w := by
    simp [Instr.loadAt, Sem.run_bind, Instr.sureAddr, hl]
  unfold Oper.wp
  simp [execOp, hop, hp, hrun, Result.andThen]
  exact hK' _ _ hK
theorem build_a (hg : o.guard = none) (x : Operand) (hop : o.op = .build 67 #[(0, .const (.int .i64 4)), (5, x)]) (nb : Nat) (hx : a.eval x = slOf (some nb) 1 1) (hK : wpList Try.prog ops Q rest (a.put o.dst (.agg (altV (some nb) 1 1).cells)) w) : wpList Try.prog ops Q (o :: rest) a w := by
  have hb : Try.prog.built 67 [(0, .int .i64 4), (5, slOf (some nb) 1 1)] = some (altV (some nb) 1 1).cells := by kernel_rfl
  have e1 : a.eval (.const (.int .i64 4)) = .int .i64 4 := rfl
  refine wpList_build hg 67 _ hop ?_ ?_
  · simp only [List.map_toArray, List.map_cons, List.map_nil, e1, hx, hb]; rfl
  · simp only [List.map_toArray, List.map_cons, List.map_nil, e1, hx, hb, Option.getD_some]
    exact hK
end
set_option maxHeartbeats 8000000 in
set_option maxRecDepth 100000 in
theorem alt.calls (g p : Nat) (s : ByteArray) (fold : Bool) (cat : Nat → Rs Pt) (W : World) (h : RS W g s p fold) (hs : s.size ≤ 200) (hp : p ≤ s.size) (hr0 : ∀ p t q, p ≤ s.size → cat p = .ok t q → p ≤ q ∧ q ≤ s.size) (hcat : ∀ q, p ≤ q → q ≤ s.size → ∀ W', RS W' g s q fold → Calls Try.prog 65 #[.pointer (some ⟨g, 0, none⟩)] W' fun e w' => TPost g s fold W' (cat q) e w') :
    Calls Try.prog 51 #[.pointer (some ⟨g, 0, none⟩)] W fun e w' => TPost g s fold W (altB cat s p) e w' := by
  have HQ := Aside0.mk (QT.nil h)
  obtain ⟨r, hr⟩ : ∃ r, altB cat s p = r := ⟨_, rfl⟩
  rw [hr]
  unfold altB at hr
  have HRP := Aside0.mk hcat
  have HRO := Aside0.mk hr0
  have HSZ := Aside0.mk hs
  have HTK : Aside0 (∀ W' q b, RS W' g s q fold → takeP s q b = true → Calls Try.prog 66 #[.pointer (some ⟨g, 0, none⟩), .int .u8 b] W' fun e w' => e = .returned (.bool true) ∧ RS w' g s (q + 1) fold ∧ Mv g W' w') := ⟨fun W' q b h1 h2 => by have := take.calls g q s fold b W' h1 hs; rw [h2, if_pos rfl] at this; exact this⟩
  have HTN : Aside0 (∀ W' q b, RS W' g s q fold → takeP s q b = false → Calls Try.prog 66 #[.pointer (some ⟨g, 0, none⟩), .int .u8 b] W' fun e w' => e = .returned (.bool false) ∧ RS w' g s q fold ∧ Mv g W' w') := ⟨fun W' q b h1 h2 => by have := take.calls g q s fold b W' h1 hs; rw [h2, if_neg (by simp)] at this; exact this⟩
  clear h hcat hr0
  cases hE : cat p with
  | bad n =>
    rw [hE] at hr
    simp only at hr
    have HA : Aside0 (∀ W', RS W' g s p fold → Calls Try.prog 65 #[.pointer (some ⟨g, 0, none⟩)] W' fun e w' => Bad n e ∧ Mv g W' w') := ⟨fun W' h => (HRP.out p (Nat.le_refl _) hp W' h).mono fun e w' h => h.bad_elim hE⟩
    have HR := Aside0.mk hr
    clear hr hE
    go_enter Try.func51, Try.ntmps51
    go_wp2_with (first
      | (go_at_call 65; (with_reducible refine (HA.out _ Y1.out.rs).mono ?_); rintro e w9 ⟨he, hm1⟩; unfold Bad at he; subst he; have Y2 := Aside0.mk (Y1.out.mv.trans hm1); clear hm1)
      | ((with_reducible refine gate_alloc (t := 67) (d := 2) rfl rfl ?_); refine alloc_pt rfl rfl rfl ?_; intro r2 w9 hg1 hc1 hb1; have Y1 := Aside0.mk (HQ.out.push hg1 hc1 hb1); clear hg1 hc1 hb1))
    exact ⟨rfl, TPost.bad HR.out.symm Y2.out⟩
  | ok t0 q0 =>
    rw [hE] at hr
    simp only at hr
    have h00 := HRO.out p t0 q0 hp hE
    have HA : Aside0 (∀ W', RS W' g s p fold → Calls Try.prog 65 #[.pointer (some ⟨g, 0, none⟩)] W' fun e w' => ∃ v : PV, e = .returned (.agg v.cells) ∧ FV w' (fun b => W'.heap.size ≤ b) t0 [v] ∧ RS w' g s q0 fold ∧ Mv g W' w') := ⟨fun W' h => (HRP.out p (Nat.le_refl _) hp W' h).mono fun e w' h => h.ok_elim hE⟩
    obtain ⟨L, hL⟩ : ∃ L, altL cat s (s.size + 1 - q0) q0 t0 = L := ⟨_, rfl⟩
    rw [hL] at hr
    have HL := Aside0.mk hL
    have HR := Aside0.mk hr
    clear hr hE hL
    go_enter Try.func51, Try.ntmps51
    go_wp2_with (first
      | ((with_reducible refine gate_storeT (t := 67) (p := 3) rfl ?_); refine store_pt rfl 3 _ rfl _ rfl PV.nil (altV (some nb) 1 1) rfl (Y6.out.q.at_ 1 _ _ _ rfl).2 ?_; intro w9 hc hm; have Y7 := Aside0.mk (Y6.out.set 1 rfl hc hm); clear hc hm)
      | ((with_reducible refine gate_alloc (t := 67) (d := 3) rfl rfl ?_); refine alloc_pt rfl rfl rfl ?_; intro r3 w9 hg1 hc1 hb1; have Y6 := Aside0.mk (Y5.out.push hg1 hc1 hb1); clear hg1 hc1 hb1)
      | ((with_reducible refine gate_build (t := 67) rfl ?_); refine build_a rfl _ rfl nb rfl ?_)
      | ((with_reducible refine gate_row (t := 65) (n := 1) rfl ?_); refine row_pt rfl _ rfl v0 rfl ?_; intro nb w9 hn1 hw1; have Y5 := Aside0.mk (CT.one Y4.out (Y4.out.tr 0 _ _ rfl) hn1 hw1); clear hn1 hw1)
      | (go_at_call 65; (with_reducible refine (HA.out _ Y3.out.rs).mono ?_); rintro e w9 ⟨v0, rfl, ht1, hr1, hm1⟩; have Y4 := Aside0.mk (Y3.out.tree hr1 hm1 ht1); clear ht1 hr1 hm1)
      | ((with_reducible refine gate_alloc (t := 67) (d := 2) rfl rfl ?_); refine alloc_pt rfl rfl rfl ?_; intro r2 w9 hg1 hc1 hb1; have Y3 := Aside0.mk (HQ.out.push hg1 hc1 hb1); clear hg1 hc1 hb1))
    go_simp
    go_loopg [] (s.size + 1 - q0) (fun kq w' => ∃ (q : Nat) (f : Pt) (b : Option Nat) (n cap : Nat), s.size + 1 ≤ q + kq ∧ p ≤ q ∧ q ≤ s.size ∧ n ≤ q + 1 ∧ Aside0 (altL cat s kq q f = L) ∧ Aside0 (CT g W w' s q fold [(r2, 67, PV.nil.cells), (r3, 67, (altV b n cap).cells)] f (altV b n cap)))
    case atStart => exact ⟨q0, t0, some nb, 1, 1, by omega, by omega, by omega, by omega, HL, ⟨Y7.out⟩⟩
    case round =>
      clear HL HQ HA h00
      obtain ⟨q, f, b, n, cap, hq, hpq, hqs, hnq, HB0, HQ⟩ := hrel
      obtain ⟨k, rfl⟩ : ∃ k, gk = k + 1 := ⟨gk - 1, by omega⟩
      have hb := HB0.out
      rw [altL] at hb
      clear HB0
      by_cases m1 : takeP s q 124 = true
      · rw [if_pos m1] at hb
        have hlt := takeP_lt m1
        have HN2 : Aside0 (n ≤ 200) := ⟨by have := HSZ.out; omega⟩
        have hq9 : p ≤ q + 1 ∧ q + 1 ≤ s.size := ⟨by omega, by omega⟩
        cases hE : cat (q + 1) with
        | bad n9 =>
          rw [hE] at hb
          simp only at hb
          have hr2 := HR.out
          rw [← hb] at hr2
          unfold altEnd at hr2
          have HR2 := Aside0.mk hr2
          have HA0 : Aside0 (∀ W', RS W' g s (q + 1) fold → Calls Try.prog 65 #[.pointer (some ⟨g, 0, none⟩)] W' fun e w' => Bad n9 e ∧ Mv g W' w') := ⟨fun W' h => (HRP.out (q + 1) hq9.1 hq9.2 W' h).mono fun e w' h => h.bad_elim hE⟩
          clear hb hr2 hE
          have HE := Aside0.mk m1
          clear m1
          obtain ⟨q1, hq1⟩ : ∃ q1, q + 1 = q1 := ⟨_, rfl⟩
          have HTK1 : Aside0 (∀ W', RS W' g s q fold → Calls Try.prog 66 #[.pointer (some ⟨g, 0, none⟩), .int .u8 124] W' fun e w' => e = .returned (.bool true) ∧ RS w' g s q1 fold ∧ Mv g W' w') := ⟨fun W' h => by rw [← hq1]; exact HTK.out W' q 124 h HE.out⟩
          rw [hq1] at HA0
          have HA := HA0
          clear hq1
          go_wp2_with (go_at_call 66; (with_reducible refine (HTK1.out _ HQ.out.q.rs).mono ?_); rintro e W0 ⟨rfl, hr1, hm1⟩; have D1 := Aside0.mk (HQ.out.rd hr1 hm1); clear hr1 hm1)
          have D2 := Aside0.mk D1.out.drew
          have K1 : Aside0 (W0.cell? ⟨r3, 8, none⟩ = some (.slice (b.map fun g => ⟨g, 0, none⟩) n cap)) := ⟨D1.out.q.cellAt 1 8 (b := r3) rfl⟩
          have KD := K1.out
          go_region_dies
          all_goals (go_at_call 65; (with_reducible refine (HA.out _ D2.out.q.rs).mono ?_); rintro e w2 ⟨he, hm1⟩; unfold Bad at he; subst he; have HM := Aside0.mk (D2.out.q.mv.trans hm1); clear hm1; exact ⟨rfl, TPost.bad HR2.out.symm HM.out⟩)
        | ok t q2 =>
          rw [hE] at hb
          simp only at hb
          have hro := HRO.out (q + 1) t q2 hq9.2 hE
          have HB1 := Aside0.mk hb
          have HA0 : Aside0 (∀ W', RS W' g s (q + 1) fold → Calls Try.prog 65 #[.pointer (some ⟨g, 0, none⟩)] W' fun e w' => ∃ v : PV, e = .returned (.agg v.cells) ∧ FV w' (fun b => W'.heap.size ≤ b) t [v] ∧ RS w' g s q2 fold ∧ Mv g W' w') := ⟨fun W' h => (HRP.out (q + 1) hq9.1 hq9.2 W' h).mono fun e w' h => h.ok_elim hE⟩
          clear hb hE
          have HE := Aside0.mk m1
          clear m1
          obtain ⟨q1, hq1⟩ : ∃ q1, q + 1 = q1 := ⟨_, rfl⟩
          have HTK1 : Aside0 (∀ W', RS W' g s q fold → Calls Try.prog 66 #[.pointer (some ⟨g, 0, none⟩), .int .u8 124] W' fun e w' => e = .returned (.bool true) ∧ RS w' g s q1 fold ∧ Mv g W' w') := ⟨fun W' h => by rw [← hq1]; exact HTK.out W' q 124 h HE.out⟩
          rw [hq1] at HA0
          have HA := HA0
          clear hq1
          go_wp2_with (go_at_call 66; (with_reducible refine (HTK1.out _ HQ.out.q.rs).mono ?_); rintro e W0 ⟨rfl, hr1, hm1⟩; have D1 := Aside0.mk (HQ.out.rd hr1 hm1); clear hr1 hm1)
          have D2 := Aside0.mk D1.out.drew
          have K1 : Aside0 (W0.cell? ⟨r3, 8, none⟩ = some (.slice (b.map fun g => ⟨g, 0, none⟩) n cap)) := ⟨D1.out.q.cellAt 1 8 (b := r3) rfl⟩
          have KD := K1.out
          go_region_law (first
            | (go_simp; go_at_call 65; (with_reducible refine (HA.out _ D2.out.q.rs).mono ?_); rintro e w2 ⟨v1, rfl, ht1, hr1, hm1⟩; obtain ⟨xs, ho, hn, hj⟩ := D2.out.join hr1 hm1 ht1 rfl; have HO := Aside0.mk ho; have HN := Aside0.mk hn; have HJ := Aside0.mk hj; have K2 : Aside0 (w2.cell? ⟨r3, 8, none⟩ = some (.slice (b.map fun g => ⟨g, 0, none⟩) n cap)) := ⟨(D2.out.rd hr1 hm1).q.cellAt 1 8 (b := r3) rfl⟩; have K3 : Aside0 ((w2.alloc (.cells v1.cells 67)).cell? ⟨r3, 8, none⟩ = some (.slice (b.map fun g => ⟨g, 0, none⟩) n cap)) := ⟨((D2.out.rd hr1 hm1).call (below_alloc (Below.refl _ _) _)).q.cellAt 1 8 (b := r3) rfl⟩; have kx2 := K2.out; have kx3 : (w2.alloc (.cells #[.int .i64 v1.k, .int .u64 v1.c.a, .int .u64 v1.c.b, .int .u64 v1.c.c, .int .u64 v1.c.d, .int .i64 v1.le, .int .i64 v1.mo, .bool v1.nu, .slice (v1.b.map fun g => ⟨g, 0, none⟩) v1.n v1.cap] 67)).cell? ⟨r3, 8, none⟩ = some (.slice (b.map fun g => ⟨g, 0, none⟩) n cap) := K3.out; rw [agg9 v1]; clear ho hn hj ht1 hr1 hm1)
            | (refine step_append_pt2 rfl _ _ rfl _ n xs rfl HO.out ⟨w2.heap.size, 0, none⟩ v1.cells.toList rfl rfl HN.out (one9 v1) HN2.out ?_; intro x w4 h1 h2 h3; obtain ⟨b', cap', hx9, hc⟩ := HJ.out x w4 h1 h2 h3; have hx8 : x = .slice (b'.map fun g => ⟨g, 0, none⟩) (n + 1) cap' := hx9; subst hx8; have C4 := Aside0.mk hc; have K4 : Aside0 (w4.cell? ⟨r3, 8, none⟩ = some (.slice (b.map fun g => ⟨g, 0, none⟩) n cap)) := ⟨hc.q.cellAt 1 8 (b := r3) rfl⟩; have k8 := K4.out; have f8 := hc.q.cellFz 1 8 (b := r3) rfl; clear h1 h2 h3 hx9 hc))
          all_goals (
            go_wp2
            go_roundg k
            case measure => omega
            case rel => exact ⟨q2, f.app t, b', n + 1, cap', by omega, by omega, by omega, by omega, HB1, ⟨C4.out.cell 1 (b := r3) rfl 8 _ (altV b' (n + 1) cap').cells rfl⟩⟩)
      rw [if_neg m1] at hb
      have HT := Aside0.mk (Bool.eq_false_iff.2 m1)
      have hr2 := HR.out
      rw [← hb] at hr2
      unfold altEnd at hr2
      simp only at hr2
      have hlen := HQ.out.len
      have hlen2 : n = f.len := hlen
      clear hb m1
      by_cases d1 : n = 1
      · subst d1
        rw [if_pos hlen2.symm] at hr2
        have HR2 := Aside0.mk hr2
        clear hr2 hlen hlen2
        go_wp2_with (first
          | ((with_reducible refine gate_storeT (t := 67) (p := 2) rfl ?_); refine store_pt rfl 2 _ rfl _ rfl PV.nil v1 rfl (E1.out.at_ 0 _ _ _ rfl).2 ?_; intro w9 hc hm; have Y8 := Aside0.mk (E1.out.set 0 rfl hc hm); clear hc hm)
          | ((with_reducible refine gate_load (t := 67) (p := 23) rfl ?_); refine load_ptc rfl 23 rfl kb 0 rfl v1 (fun j x hj => by rw [Nat.zero_add]; exact HCS.out j x hj) ?_)
          | (go_at_call 66; (with_reducible refine (HTN.out _ q 124 HQ.out.q.rs HT.out).mono ?_); rintro e w1 ⟨rfl, hr1, hm1⟩; have E0 := Aside0.mk (HQ.out.rd hr1 hm1); have KE := (HQ.out.rd hr1 hm1).q.cellAt 1 8 (b := r3) rfl; clear hr1 hm1; obtain ⟨kb, v1, hkb, hcs, hqt⟩ := E0.out.first rfl; have hkb : b = some kb := hkb; subst hkb; have KE2 : w1.cell? ⟨r3, 8, none⟩ = some (.slice (some ⟨kb, 0, none⟩) 1 cap) := KE; have HCS := Aside0.mk hcs; have E1 := Aside0.mk hqt; clear hcs hqt KE))
        (try simp only [Exit.inBlock, Exit.then])
        refine bodyPost_ret (results_pt rfl _ _ rfl (v := v1) (Y8.out.at_ 0 _ _ _ rfl).2) rfl ?_
        exact Y8.out.post 0 rfl HR2.out.symm
      rw [if_neg (fun h => d1 (hlen2.trans h))] at hr2
      have HR2 := Aside0.mk hr2
      have d2 : ((n : Int) == 1) = false := beq_eq_false_iff_ne.2 (by omega)
      have d3 : (n == 1) = false := beq_eq_false_iff_ne.2 d1
      clear hr2 hlen hlen2
      go_wp2_with (first
        | ((with_reducible refine gate_storeT (t := 67) (p := 2) rfl ?_); refine store_pt rfl 2 _ rfl _ rfl PV.nil (altV b n cap) rfl (E1.out.at_ 0 _ _ _ rfl).2 ?_; intro w9 hc hm; have Y9 := Aside0.mk (E1.out.set 0 rfl hc hm); clear hc hm)
        | ((with_reducible refine gate_load (t := 67) (p := 3) rfl ?_); refine load_pt rfl 3 rfl _ rfl (altV b n cap) (E1.out.at_ 1 _ _ _ rfl).2 ?_)
        | (go_at_call 66; (with_reducible refine (HTN.out _ q 124 HQ.out.q.rs HT.out).mono ?_); rintro e w1 ⟨rfl, hr1, hm1⟩; have E0 := Aside0.mk (HQ.out.rd hr1 hm1); have KE := (HQ.out.rd hr1 hm1).q.cellAt 1 8 (b := r3) rfl; clear hr1 hm1; have E1 := Aside0.mk (E0.out.tree (k := 4) (c := C4.nil) (le := 0) (mo := 0) (nu := false) ⟨rfl, rfl, rfl, rfl, rfl⟩); have KE2 : w1.cell? ⟨r3, 8, none⟩ = some (.slice (b.map fun g => ⟨g, 0, none⟩) n cap) := KE; clear KE))
      (try simp only [Exit.inBlock, Exit.then])
      refine bodyPost_ret (results_pt rfl _ _ rfl (v := altV b n cap) (Y9.out.at_ 0 _ _ _ rfl).2) rfl ?_
      exact Y9.out.post 0 rfl HR2.out.symm

end Go.Proofs.Ytclgnefeankbgaa.M
namespace Go.Proofs.Ytclgnefeankbgaa.M
open Go Go.RowKit Go.Proofs.YtclgnefeankbgaaW.PrintWords Go.Proofs.YtclgnefeankbgaaW.PrintLast Go.Proofs.YtclgnefeankbgaaW.PrintMore Hand
attribute [local go_sem] Oper.semAt_some max2_int min2_int max_two min_two max_three min_three max_four min_four
set_option linter.unusedVariables false
set_option linter.unusedSimpArgs false
/-- Alternatives, brackets at most n deep. -/
def altR (s : ByteArray) (fold : Bool) : Nat → Nat → Rs Pt
  | 0, p => .bad p
  | n + 1, p => altB (catR (repR (altR s fold n) s fold) s) s p
theorem altR_ok (s : ByteArray) (fold : Bool) : ∀ (n p : Nat) (t : Pt) (q : Nat), p ≤ s.size → altR s fold n p = .ok t q → p ≤ q ∧ q ≤ s.size
  | 0, p, t, q, hp, h => by cases h
  | n + 1, p, t, q, hp, h => by
    rw [altR] at h
    exact altB_ok (fun p t q hp h => catR_ok (fun p t q hp h => repR_ok (fun t q hp h => altR_ok s fold n (p + 1) t q (by omega) h) h) hp h) hp h
theorem altR.calls (g : Nat) (s : ByteArray) (fold : Bool) (hs : s.size ≤ 200) : ∀ (n p : Nat), p ≤ s.size → s.size < n + p → ∀ W, RS W g s p fold →
    Calls Try.prog 51 #[.pointer (some ⟨g, 0, none⟩)] W fun e w' => TPost g s fold W (altR s fold n p) e w'
  | 0, p, hp, hn, W, h => by omega
  | n + 1, p, hp, hn, W, h => by
    have hro : ∀ p t q, p < s.size → repR (altR s fold n) s fold p = .ok t q → p < q ∧ q ≤ s.size := fun p t q hp h => repR_ok (fun t q hp h => altR_ok s fold n (p + 1) t q (by omega) h) h
    refine alt.calls g p s fold (catR (repR (altR s fold n) s fold) s) W h hs hp (fun p t q hp h => catR_ok hro hp h) fun q hpq hq W1 h1 => ?_
    refine cat.calls g q s fold (repR (altR s fold n) s fold) W1 h1 hs hq hro fun q2 hq2 hl W2 h2 => ?_
    exact rep.calls g q2 s fold (altR s fold n) W2 h2 hs (fun t q hp h => altR_ok s fold n (q2 + 1) t q (by omega) h) fun hl2 W3 h3 => altR.calls g s fold hs n (q2 + 1) (by omega) (by omega) W3 h3
/-- The tree of a text, or the place that does not fit. -/
def readR (s : ByteArray) (fold : Bool) : Rs Pt :=
  match altR s fold (s.size + 1) 0 with
  | .bad n => .bad n
  | .ok t q => if q < s.size then .bad q else .ok t q
section
variable {r4 r5 n : Nat} {w : World} {v : PV} {x : Value}
theorem build_0 {ops : Array Oper} {rest : List Oper} {o : Oper} {a : Act} {Q : Exit → Act → World → Prop} {w : World} (hg : o.guard = none) (hop : o.op = .build 67 #[]) (hK : wpList Try.prog ops Q rest (a.put o.dst (.agg PV.nil.cells)) w) : wpList Try.prog ops Q (o :: rest) a w := by
  have hb : Try.prog.built 67 [] = some PV.nil.cells := by kernel_rfl
  refine wpList_build hg 67 _ hop ?_ ?_
  · simp only [List.map_toArray, List.map_nil, hb]; rfl
  · simp only [List.map_toArray, List.map_nil, hb, Option.getD_some]; exact hK
set_option maxHeartbeats 4000000 in
set_option maxRecDepth 100000 in
theorem catch.bad (h4 : VAt w r4 67 v.cells) (h5 : VAt w r5 3 #[x]) (hne : r4 ≠ r5) :
    CallsD Try.prog 50 #[.pointer (some ⟨r4, 0, none⟩), .pointer (some ⟨r5, 0, none⟩)] (.panicking [{ v := .iface 106 (.int .i64 (n : Int)), recovered := false }]) w fun e u' w' =>
      e = .returned (.tuple #[]) ∧ u' = .panicking [{ v := .iface 106 (.int .i64 (n : Int)), recovered := true }] ∧ VAt w' r4 67 PV.nil.cells ∧ VAt w' r5 3 #[.int .i64 (n : Int)] ∧ Mv2 r4 r5 w w' := by
  refine callsD_of_wpS Try.func50 rfl fun c₀ cs hu => ?_
  apply wpS_seq
  apply wpS_region
  simp [wpOpsS, go_sem, recoverD, hu, Try.ntmps50, Exit.thenS]
  change Code.wpS _ _ _ { tmps := #[.pointer (some ⟨r4, 0, none⟩), .pointer (some ⟨r5, 0, none⟩), .iface 106 (.int .i64 (n : Int)), undef, undef, .iface 106 (.int .i64 (n : Int)), undef, undef, undef, undef, undef, undef, undef, undef, undef, undef, undef, undef], defers := [] } _ _
  have H4 := Aside0.mk h4
  have H5 := Aside0.mk h5
  have HN := Aside0.mk hne
  clear h4 h5 hne
  have hta : ∀ (m : Int) (w : World), Sem.run Try.prog (Instr.typeAssert (.iface 106 (.int .i64 m)) 20 106 true) w = .ok (.tuple #[.int .i64 m, .bool true]) w := fun _ _ => by kernel_rfl
  refine wpS_of_wp ?_
  go_wp2_with (first
    | ((with_reducible refine gate_storeT (t := 67) (p := 0) rfl ?_); refine store_pt rfl 0 _ rfl _ rfl v PV.nil rfl H4.out ?_; intro w1 hc hm; have C1 := Aside0.mk hc; have M1 := Aside0.mk hm; have c5 : w1.cell? ⟨r5, 0, none⟩ = some x := (blk_cell (H5.out.mv hm (Ne.symm HN.out)) 0).trans rfl; have f5 : w1.frozen? ⟨r5, 0, none⟩ = false := blk_frozen (H5.out.mv hm (Ne.symm HN.out)) 0; clear hc hm)
    | ((with_reducible refine gate_build (t := 67) rfl ?_); refine build_0 rfl rfl ?_))
  exact ⟨rfl, _, rfl, _, results_none rfl _ _ _, rfl, rfl, (C1.out.mv ((Mv.refl r5 w1).set 0 _) HN.out), blk_set (H5.out.mv M1.out (Ne.symm HN.out)) 0 _, ((Mv2.refl r4 r5 w).left M1.out).right ((Mv.refl r5 w1).set 0 _)⟩
set_option maxRecDepth 100000 in
theorem catch.idle (w : World) :
    CallsD Try.prog 50 #[.pointer (some ⟨r4, 0, none⟩), .pointer (some ⟨r5, 0, none⟩)] .returning w fun e u' w' => e = .returned (.tuple #[]) ∧ u' = .returning ∧ w' = w := by
  refine callsD_of_wpS Try.func50 rfl fun c₀ cs hu => ?_
  apply wpS_seq
  apply wpS_region
  simp [wpOpsS, go_sem, recoverD, hu, Try.ntmps50, Exit.thenS]
  change Code.wpS _ _ _ { tmps := #[.pointer (some ⟨r4, 0, none⟩), .pointer (some ⟨r5, 0, none⟩), .nilIface, undef, undef, .nilIface, undef, undef, undef, undef, undef, undef, undef, undef, undef, undef, undef, undef], defers := [] } _ _
  refine wpS_of_wp ?_
  go_wp2
  cases c₀
  simp_all [bodyPostS, results, Try.results50]
end
/-- The call's two results, its reader. -/
structure RD (W w : World) (r4 r5 g : Nat) (s : ByteArray) (p : Nat) (fold : Bool) (v : PV) (x : Value) : Prop where
  b : Below W.heap.size W w
  h4 : VAt w r4 67 v.cells
  h5 : VAt w r5 3 #[x]
  rs : RS w g s p fold
  n45 : r4 ≠ r5
  n4 : g ≠ r4
  n5 : g ≠ r5
  l4 : W.heap.size ≤ r4
  l5 : W.heap.size ≤ r5
  lg : W.heap.size ≤ g
section
variable {W w w' : World} {r4 r5 g p q : Nat} {s : ByteArray} {fold : Bool} {v v' : PV} {x : Value}
theorem RD.rd (h : RD W w r4 r5 g s p fold v x) (hr : RS w' g s q fold) (hm : Mv g w w') : RD W w' r4 r5 g s q fold v x := ⟨hm.below h.b h.lg h.b.size, h.h4.mv hm (Ne.symm h.n4), h.h5.mv hm (Ne.symm h.n5), hr, h.n45, h.n4, h.n5, h.l4, h.l5, h.lg⟩
theorem RD.set4 (h : RD W w r4 r5 g s p fold v x) (hc : VAt w' r4 67 v'.cells) (hm : Mv r4 w w') : RD W w' r4 r5 g s p fold v' x := ⟨hm.below h.b h.l4 h.b.size, hc, h.h5.mv hm (Ne.symm h.n45), h.rs.mv hm h.n4, h.n45, h.n4, h.n5, h.l4, h.l5, h.lg⟩
theorem RD.set5 (h : RD W w r4 r5 g s p fold v x) (y : Value) : RD W (w.setCell ⟨r5, 0, none⟩ y) r4 r5 g s p fold v y := ⟨((Mv.refl r5 w).set 0 y).below h.b h.l5 h.b.size, h.h4.mv ((Mv.refl r5 w).set 0 y) h.n45, blk_set h.h5 0 y, h.rs.mv ((Mv.refl r5 w).set 0 y) h.n5, h.n45, h.n4, h.n5, h.l4, h.l5, h.lg⟩
theorem RD.c1 (h : RD W w r4 r5 g s p fold v x) : w.cell? ⟨g, 1, none⟩ = some (.int .i64 (p : Int)) := (blk_cell h.rs 1).trans rfl
theorem RD.c5 (h : RD W w r4 r5 g s p fold v x) : w.cell? ⟨r5, 0, none⟩ = some x := (blk_cell h.h5 0).trans rfl
theorem RD.f5 (h : RD W w r4 r5 g s p fold v x) : w.frozen? ⟨r5, 0, none⟩ = false := blk_frozen h.h5 0
end
section
variable {ops : Array Oper} {rest : List Oper} {o : Oper} {a : Act} {Q : Exit → Act → World → Prop} {w : World}
theorem alloc_int (hg : o.guard = none) {d : Tmp} (hd : o.dst = some d) (hop : o.op = .alloc 3) (hK : ∀ g w', g = w.heap.size → VAt w' g 3 #[.int .i64 0] → Below w.heap.size w w' → wpList Try.prog ops Q rest (a.put o.dst (.pointer (some ⟨g, 0, none⟩))) w') : wpList Try.prog ops Q (o :: rest) a w := by
  refine box_event hg hd (cs := #[.int .i64 0]) (t := 3) ?_ (fun g hgs w1 hb hbl => hK g w1 hgs hb hbl)
  have hrun : (Instr.alloc 3 true (.tuple #[])).run Try.prog w = .ok (.pointer (some ⟨w.heap.size, 0, none⟩)) (w.alloc (.cells #[.int .i64 0] 3)) := by kernel_rfl
  simp [execOp, hop, Result.andThen, hrun]
theorem box_rs (hg : o.guard = none) {d : Tmp} (hd : o.dst = some d) (x : Operand) (hop : o.op = .box 105 x) (s : ByteArray) (fold : Bool) (hx : a.eval x = .agg #[.string s, .int .i64 0, .bool fold]) (hK : ∀ g w', g = w.heap.size → RS w' g s 0 fold → Below w.heap.size w w' → wpList Try.prog ops Q rest (a.put o.dst (.pointer (some ⟨g, 0, none⟩))) w') : wpList Try.prog ops Q (o :: rest) a w := by
  refine box_event hg hd (cs := #[.string s, .int .i64 0, .bool fold]) (t := 105) ?_ (fun g hgs w1 hb hbl => hK g w1 hgs hb hbl)
  have hrun : (Instr.box 105 (.agg #[.string s, .int .i64 0, .bool fold])).run Try.prog w = .ok (.pointer (some ⟨w.heap.size, 0, none⟩)) (w.alloc (.cells #[.string s, .int .i64 0, .bool fold] 105)) := by
    simp [Instr.box, newVar, newRow, Value.cells, go_sem]
  simp [execOp, hop, hx, Result.andThen, hrun]
end
theorem results_read {fn : Func} {p u : Tmp} (h : fn.results = #[.cell p 67, .cell u 3]) (tmps : Array Value) (W : World) {g r : Nat} {v : PV} {x : Int} (hp : tmps.getD p undef = .pointer (some ⟨g, 0, none⟩)) (hu : tmps.getD u undef = .pointer (some ⟨r, 0, none⟩)) (hc : VAt W g 67 v.cells) (hx : VAt W r 3 #[.int .i64 x]) : (results fn tmps).run Try.prog W = .ok (.tuple #[.agg v.cells, .int .i64 x]) W := by
  have hp' : tmps[p]?.getD undef = .pointer (some ⟨g, 0, none⟩) := by simpa using hp
  have hu' : tmps[u]?.getD undef = .pointer (some ⟨r, 0, none⟩) := by simpa using hu
  have hl := load9 hc
  have h0 : W.cell? ⟨r, 0, none⟩ = some (.int .i64 x) := (blk_cell hx 0).trans rfl
  have hli : (loadVar 3 ⟨r, 0, none⟩).run Try.prog W = .ok (.int .i64 x) W := by
    have ha : (isAgg 3).run Try.prog W = .ok false W := by kernel_rfl
    have hs : (sizeOf 3).run Try.prog W = .ok 1 W := by kernel_rfl
    simp [loadVar, Sem.run_bind, ha, hs, loadCells, h0, go_sem]
  simp [results, h, hp', hu', asAddr, hl, hli]
/-- What read leaves. -/
def RdPost (W : World) (r : Rs Pt) (e : Ending) (w' : World) : Prop := match r with
  | .ok t _ => ∃ v : PV, e = .returned (.tuple #[.agg v.cells, .int .i64 (-1)]) ∧ FV w' (fun b => W.heap.size ≤ b) t [v] ∧ Below W.heap.size W w'
  | .bad n => e = .returned (.tuple #[.agg PV.nil.cells, .int .i64 (n : Int)]) ∧ Below W.heap.size W w'
end Go.Proofs.Ytclgnefeankbgaa.M
namespace Go.Proofs.Ytclgnefeankbgaa.M
open Go Go.RowKit Go.Proofs.YtclgnefeankbgaaW.PrintWords Go.Proofs.YtclgnefeankbgaaW.PrintLast Go.Proofs.YtclgnefeankbgaaW.PrintMore Hand
attribute [local go_sem] Oper.semAt_some max2_int min2_int max_two min_two max_three min_three max_four min_four
set_option linter.unusedVariables false
set_option linter.unusedSimpArgs false
section
variable {W w : World} {r4 r5 g p : Nat} {s : ByteArray} {fold : Bool} {v : PV} {x : Int} {fn : Func} {tmps : Array Value} {r : Rs Pt}
/-- The door, behind a return. -/
theorem door_ret (hfn : fn.results = #[.cell 4 67, .cell 5 3]) (h4 : tmps.getD 4 undef = .pointer (some ⟨r4, 0, none⟩)) (h5 : tmps.getD 5 undef = .pointer (some ⟨r5, 0, none⟩)) (h : RD W w r4 r5 g s p fold v (.int .i64 (-1))) {t : Pt} {q : Nat} (ht : FV w (fun k => W.heap.size ≤ k) t [v]) (hr : r = .ok t q) :
    Leaves Try.prog fn tmps (fun e w' => RdPost W r e w') [{ target := .fn (Fn.func 50) #[.pointer (some ⟨r4, 0, none⟩), .pointer (some ⟨r5, 0, none⟩)], args := #[] }] .returning w := by
  refine leaves_cons (f := 50) (args := #[.pointer (some ⟨r4, 0, none⟩), .pointer (some ⟨r5, 0, none⟩)]) (by simp) (by simp [go_sem]) ?_
  refine (catch.idle _).mono ?_
  rintro e u' w'' ⟨rfl, rfl, rfl⟩
  refine ⟨_, results_read hfn _ _ h4 h5 h.h4 h.h5, ?_⟩
  subst hr
  exact ⟨v, rfl, ht, h.b⟩
/-- The door, behind a place that does not fit. -/
theorem door_bad (hfn : fn.results = #[.cell 4 67, .cell 5 3]) (h4 : tmps.getD 4 undef = .pointer (some ⟨r4, 0, none⟩)) (h5 : tmps.getD 5 undef = .pointer (some ⟨r5, 0, none⟩)) {y : Value} {n : Nat} (hb : Below W.heap.size W w) (a4 : VAt w r4 67 v.cells) (a5 : VAt w r5 3 #[y]) (hne : r4 ≠ r5) (l4 : W.heap.size ≤ r4) (l5 : W.heap.size ≤ r5) (hr : r = .bad n) :
    Leaves Try.prog fn tmps (fun e w' => RdPost W r e w') [{ target := .fn (Fn.func 50) #[.pointer (some ⟨r4, 0, none⟩), .pointer (some ⟨r5, 0, none⟩)], args := #[] }] (.panicking [{ v := .iface 106 (.int .i64 (n : Int)), recovered := false }]) w := by
  refine leaves_cons (f := 50) (args := #[.pointer (some ⟨r4, 0, none⟩), .pointer (some ⟨r5, 0, none⟩)]) (by simp) (by simp [go_sem]) ?_
  refine (catch.bad a4 a5 hne).mono ?_
  rintro e u' w' ⟨rfl, rfl, b4, b5, hm⟩
  refine ⟨_, results_read hfn _ _ h4 h5 b4 b5, ?_⟩
  subst hr
  exact ⟨rfl, ⟨hm.os.trans hb.os, hm.tape.trans hb.tape, hm.output.trans hb.output, Nat.le_trans hb.size hm.size, fun k hk => (hm.block k (Nat.lt_of_lt_of_le hk hb.size) (by omega) (by omega)).trans (hb.block k hk)⟩⟩
end
set_option maxHeartbeats 8000000 in
set_option maxRecDepth 100000 in
theorem read.calls (s : ByteArray) (fold : Bool) (W : World) (hs : s.size ≤ 200) : Calls Try.prog 34 #[.string s, .bool fold] W fun e w' => RdPost W (readR s fold) e w' := by
  obtain ⟨r, hr⟩ : ∃ r, readR s fold = r := ⟨_, rfl⟩
  rw [hr]
  unfold readR at hr
  have HA0 : Aside0 (∀ W' g, RS W' g s 0 fold → Calls Try.prog 51 #[.pointer (some ⟨g, 0, none⟩)] W' fun e w' => TPost g s fold W' (altR s fold (s.size + 1) 0) e w') := ⟨fun W' g h => altR.calls g s fold hs (s.size + 1) 0 (by omega) (by omega) W' h⟩
  have hmf : ∀ (fn : Fn) (first cap : Array Value) (w : World), (Instr.makeFunc fn first cap).run Try.prog w = .ok (.func fn first cap) w := fun _ _ _ _ => rfl
  have hok := fun t q => altR_ok s fold (s.size + 1) 0 t q (Nat.zero_le _)
  cases hE : altR s fold (s.size + 1) 0 with
  | bad n =>
    rw [hE] at hr
    have HA : Aside0 (∀ W' g, RS W' g s 0 fold → Calls Try.prog 51 #[.pointer (some ⟨g, 0, none⟩)] W' fun e w' => Bad n e ∧ Mv g W' w') := ⟨fun W' g h => (HA0.out W' g h).mono fun e w' h => h.bad_elim hE⟩
    have HR := Aside0.mk hr
    clear hr hok hE HA0
    go_enter_defers Try.func34, Try.ntmps34
    go_wp2_with (first
      | (go_at_call 51; (with_reducible refine (HA.out _ g HG.out.rs).mono ?_); rintro e w4 ⟨he, hm1⟩; unfold Bad at he; subst he; have HM := Aside0.mk hm1; clear hm1)
      | ((with_reducible refine gate_box (t := 105) (d := 10) rfl rfl ?_); refine box_rs rfl rfl _ rfl s fold rfl ?_; intro g w3 hg1 hc1 hb1; have HG : Aside0 (RD W w3 r4 r5 g s 0 fold PV.nil (.int .i64 0)) := ⟨⟨H5.out.1.trans (hb1.mono H5.out.1.size), H5.out.2.1.move hb1, H5.out.2.2.1.move hb1, hc1, H5.out.2.2.2.1, (by have := blk_lt H5.out.2.1; omega), (by have := blk_lt H5.out.2.2.1; omega), H5.out.2.2.2.2.1, H5.out.2.2.2.2.2, (by have := H5.out.1.size; omega)⟩⟩; clear hg1 hc1 hb1)
      | ((with_reducible refine gate_alloc (t := 3) (d := 5) rfl rfl ?_); refine alloc_int rfl rfl rfl ?_; intro r5 w2 hg1 hc1 hb1; have H5 : Aside0 (Below W.heap.size W w2 ∧ VAt w2 r4 67 PV.nil.cells ∧ VAt w2 r5 3 #[.int .i64 0] ∧ r4 ≠ r5 ∧ W.heap.size ≤ r4 ∧ W.heap.size ≤ r5) := ⟨H4.out.1.trans (hb1.mono H4.out.1.size), H4.out.2.1.move hb1, hc1, (by have := blk_lt H4.out.2.1; omega), H4.out.2.2, (by have := H4.out.1.size; omega)⟩; clear hg1 hc1 hb1)
      | ((with_reducible refine gate_alloc (t := 67) (d := 4) rfl rfl ?_); refine alloc_pt rfl rfl rfl ?_; intro r4 w1 hg1 hc1 hb1; have H4 : Aside0 (Below W.heap.size W w1 ∧ VAt w1 r4 67 PV.nil.cells ∧ W.heap.size ≤ r4) := ⟨hb1, hc1, by omega⟩; clear hg1 hc1 hb1))
    exact door_bad rfl rfl rfl (HM.out.below HG.out.b HG.out.lg HG.out.b.size) (HG.out.h4.mv HM.out (Ne.symm HG.out.n4)) (HG.out.h5.mv HM.out (Ne.symm HG.out.n5)) HG.out.n45 HG.out.l4 HG.out.l5 HR.out.symm
  | ok t q =>
    rw [hE] at hr
    simp only at hr
    have hqs := hok t q hE
    have HA : Aside0 (∀ W' g, RS W' g s 0 fold → Calls Try.prog 51 #[.pointer (some ⟨g, 0, none⟩)] W' fun e w' => ∃ v : PV, e = .returned (.agg v.cells) ∧ FV w' (fun b => W'.heap.size ≤ b) t [v] ∧ RS w' g s q fold ∧ Mv g W' w') := ⟨fun W' g h => (HA0.out W' g h).mono fun e w' h => h.ok_elim hE⟩
    clear hok hE HA0
    by_cases c : q < s.size
    · rw [if_pos c] at hr
      have HR := Aside0.mk hr
      have d1 : decide ((q : Int) < (s.size : Int)) = true := decide_eq_true (by omega)
      have d2 : decide (q < s.size) = true := decide_eq_true c
      clear hr
      go_enter_defers Try.func34, Try.ntmps34
      go_wp2_with (first
        | (go_at_call 52; (with_reducible refine (fail.calls _ q _).mono ?_); rintro e w9 ⟨he, rfl⟩; unfold Bad at he; subst he)
        | ((with_reducible refine gate_storeT (t := 67) (p := 4) rfl ?_); refine store_pt rfl 4 _ rfl _ rfl PV.nil v rfl HT.out.h4 ?_; intro w5 hc hm; have HS := Aside0.mk (HT.out.set4 hc hm); have k1 := (HT.out.set4 hc hm).c1; clear hc hm)
        | (go_at_call 51; (with_reducible refine (HA.out _ g HG.out.rs).mono ?_); rintro e w4 ⟨v, rfl, ht1, hr1, hm1⟩; have HT := Aside0.mk (HG.out.rd hr1 hm1); clear ht1 hr1 hm1)
        | ((with_reducible refine gate_box (t := 105) (d := 10) rfl rfl ?_); refine box_rs rfl rfl _ rfl s fold rfl ?_; intro g w3 hg1 hc1 hb1; have HG : Aside0 (RD W w3 r4 r5 g s 0 fold PV.nil (.int .i64 0)) := ⟨⟨H5.out.1.trans (hb1.mono H5.out.1.size), H5.out.2.1.move hb1, H5.out.2.2.1.move hb1, hc1, H5.out.2.2.2.1, (by have := blk_lt H5.out.2.1; omega), (by have := blk_lt H5.out.2.2.1; omega), H5.out.2.2.2.2.1, H5.out.2.2.2.2.2, (by have := H5.out.1.size; omega)⟩⟩; clear hg1 hc1 hb1)
        | ((with_reducible refine gate_alloc (t := 3) (d := 5) rfl rfl ?_); refine alloc_int rfl rfl rfl ?_; intro r5 w2 hg1 hc1 hb1; have H5 : Aside0 (Below W.heap.size W w2 ∧ VAt w2 r4 67 PV.nil.cells ∧ VAt w2 r5 3 #[.int .i64 0] ∧ r4 ≠ r5 ∧ W.heap.size ≤ r4 ∧ W.heap.size ≤ r5) := ⟨H4.out.1.trans (hb1.mono H4.out.1.size), H4.out.2.1.move hb1, hc1, (by have := blk_lt H4.out.2.1; omega), H4.out.2.2, (by have := H4.out.1.size; omega)⟩; clear hg1 hc1 hb1)
        | ((with_reducible refine gate_alloc (t := 67) (d := 4) rfl rfl ?_); refine alloc_pt rfl rfl rfl ?_; intro r4 w1 hg1 hc1 hb1; have H4 : Aside0 (Below W.heap.size W w1 ∧ VAt w1 r4 67 PV.nil.cells ∧ W.heap.size ≤ r4) := ⟨hb1, hc1, by omega⟩; clear hg1 hc1 hb1))
      exact door_bad rfl rfl rfl HS.out.b HS.out.h4 HS.out.h5 HS.out.n45 HS.out.l4 HS.out.l5 HR.out.symm
    · rw [if_neg c] at hr
      have HR := Aside0.mk hr
      have d1 : decide ((q : Int) < (s.size : Int)) = false := decide_eq_false (by omega)
      have d2 : decide (q < s.size) = false := decide_eq_false c
      clear hr
      go_enter_defers Try.func34, Try.ntmps34
      go_wp2_with (first
        | ((with_reducible refine gate_storeT (t := 67) (p := 4) rfl ?_); refine store_pt rfl 4 _ rfl _ rfl v v rfl HS.out.h4 ?_; intro w6 hc hm; have HS2 := Aside0.mk (HS.out.set4 hc hm); have HF2 : Aside0 (FV w6 (fun k => W.heap.size ≤ k ∧ k ≠ r4 ∧ k ≠ r5) t [v]) := ⟨HF.out.move fun k hk hl => hm.block k hl hk.2.1⟩; have k5 := (HS.out.set4 hc hm).c5; have f5 := (HS.out.set4 hc hm).f5; clear hc hm)
        | ((with_reducible refine gate_load (t := 67) (p := 4) rfl ?_); refine load_pt rfl 4 rfl _ rfl v HS.out.h4 ?_)
        | ((with_reducible refine gate_storeT (t := 67) (p := 4) rfl ?_); refine store_pt rfl 4 _ rfl _ rfl PV.nil v rfl HT.out.h4 ?_; intro w5 hc hm; have HS := Aside0.mk (HT.out.set4 hc hm); have HF : Aside0 (FV w5 (fun k => W.heap.size ≤ k ∧ k ≠ r4 ∧ k ≠ r5) t [v]) := ⟨HF0.out.move fun k hk hl => hm.block k hl hk.2.1⟩; have k1 := (HT.out.set4 hc hm).c1; clear hc hm)
        | (go_at_call 51; (with_reducible refine (HA.out _ g HG.out.rs).mono ?_); rintro e w4 ⟨v, rfl, ht1, hr1, hm1⟩; have HT := Aside0.mk (HG.out.rd hr1 hm1); have HF0 : Aside0 (FV w4 (fun k => W.heap.size ≤ k ∧ k ≠ r4 ∧ k ≠ r5) t [v]) := ⟨ht1.mono fun k hk _ => ⟨Nat.le_trans HG.out.b.size hk, (by have := blk_lt HG.out.h4; omega), (by have := blk_lt HG.out.h5; omega)⟩⟩; clear ht1 hr1 hm1)
        | ((with_reducible refine gate_box (t := 105) (d := 10) rfl rfl ?_); refine box_rs rfl rfl _ rfl s fold rfl ?_; intro g w3 hg1 hc1 hb1; have HG : Aside0 (RD W w3 r4 r5 g s 0 fold PV.nil (.int .i64 0)) := ⟨⟨H5.out.1.trans (hb1.mono H5.out.1.size), H5.out.2.1.move hb1, H5.out.2.2.1.move hb1, hc1, H5.out.2.2.2.1, (by have := blk_lt H5.out.2.1; omega), (by have := blk_lt H5.out.2.2.1; omega), H5.out.2.2.2.2.1, H5.out.2.2.2.2.2, (by have := H5.out.1.size; omega)⟩⟩; clear hg1 hc1 hb1)
        | ((with_reducible refine gate_alloc (t := 3) (d := 5) rfl rfl ?_); refine alloc_int rfl rfl rfl ?_; intro r5 w2 hg1 hc1 hb1; have H5 : Aside0 (Below W.heap.size W w2 ∧ VAt w2 r4 67 PV.nil.cells ∧ VAt w2 r5 3 #[.int .i64 0] ∧ r4 ≠ r5 ∧ W.heap.size ≤ r4 ∧ W.heap.size ≤ r5) := ⟨H4.out.1.trans (hb1.mono H4.out.1.size), H4.out.2.1.move hb1, hc1, (by have := blk_lt H4.out.2.1; omega), H4.out.2.2, (by have := H4.out.1.size; omega)⟩; clear hg1 hc1 hb1)
        | ((with_reducible refine gate_alloc (t := 67) (d := 4) rfl rfl ?_); refine alloc_pt rfl rfl rfl ?_; intro r4 w1 hg1 hc1 hb1; have H4 : Aside0 (Below W.heap.size W w1 ∧ VAt w1 r4 67 PV.nil.cells ∧ W.heap.size ≤ r4) := ⟨hb1, hc1, by omega⟩; clear hg1 hc1 hb1))
      exact door_ret rfl rfl rfl (HS2.out.set5 _) ((HF2.out.move fun k hk hl => ((Mv.refl r5 w6).set 0 _).block k hl hk.2.2).mono fun k hk _ => hk.1) HR.out.symm
end Go.Proofs.Ytclgnefeankbgaa.M
namespace Go.Proofs.Ytclgnefeankbgaa.M
open Go Go.RowKit Go.Proofs.YtclgnefeankbgaaW.PrintWords Go.Proofs.YtclgnefeankbgaaW.PrintLast Go.Proofs.YtclgnefeankbgaaW.PrintMore Hand
attribute [local go_sem] Oper.semAt_some max2_int min2_int max_two min_two max_three min_three max_four min_four
set_option linter.unusedVariables false
set_option linter.unusedSimpArgs false
def timesP (le mo : Int) (nu : Bool) : Int := if nu = true then (if mo < 0 then le + 1 else mo) else 1
def szOf (k le mo : Int) (nu : Bool) (n : Int) (len : Nat) : Int := if k = 4 then n + len - 1 else if k = 5 then n * timesP le mo nu + 1 else if k = 3 then n else 1
def sumP : Pt → Int → Int
  | .nil, n => n
  | .cons k c le mo nu kids rest, n => sumP rest (min (n + szOf k le mo nu (sumP kids 0) kids.len) 600)
def Pt.ok : Pt → Prop
  | .nil => True
  | .cons k c le mo nu kids rest => (0 ≤ le ∧ le ≤ 60 ∧ -1 ≤ mo ∧ mo ≤ 60 ∧ kids.len ≤ 300 ∧ (k = 4 → 0 < kids.len) ∧ (k = 5 → kids.len = 1)) ∧ kids.ok ∧ rest.ok
def Pt.sz : Pt → Nat
  | .nil => 0
  | .cons _ _ _ _ _ kids rest => kids.sz + rest.sz + 1
theorem timesP_range {le mo : Int} {nu : Bool} (h : 0 ≤ le ∧ le ≤ 60 ∧ -1 ≤ mo ∧ mo ≤ 60) : 0 ≤ timesP le mo nu ∧ timesP le mo nu ≤ 61 := by
  unfold timesP
  split
  · split <;> omega
  · omega
theorem szOf_range {k le mo n : Int} {nu : Bool} {len : Nat} (h : 0 ≤ le ∧ le ≤ 60 ∧ -1 ≤ mo ∧ mo ≤ 60) (hl : len ≤ 300) (h4 : k = 4 → 0 < len) (h0 : 0 ≤ n) (h1 : n ≤ 600) : 0 ≤ szOf k le mo nu n len ∧ szOf k le mo nu n len ≤ 36601 := by
  have ht := timesP_range (nu := nu) h
  unfold szOf
  split
  · rename_i h; have := h4 h; omega
  · split
    · have a := Int.mul_nonneg h0 ht.1
      have b := Int.mul_le_mul h1 ht.2 ht.1 (by omega : (0 : Int) ≤ 600)
      omega
    · split <;> omega
theorem sumP_range : ∀ (f : Pt) (n : Int), f.ok → 0 ≤ n → n ≤ 600 → 0 ≤ sumP f n ∧ sumP f n ≤ 600
  | .nil, n, h, h0, h1 => ⟨h0, h1⟩
  | .cons k c le mo nu kids rest, n, ⟨h, hk, hr⟩, h0, h1 => by
    have a := sumP_range kids 0 hk (by omega) (by omega)
    have b := szOf_range (k := k) (nu := nu) (len := kids.len) ⟨h.1, h.2.1, h.2.2.1, h.2.2.2.1⟩ h.2.2.2.2.1 h.2.2.2.2.2.1 a.1 a.2
    rw [sumP]
    exact sumP_range rest _ hr (by omega) (by omega)
section
variable {ops : Array Oper} {rest : List Oper} {o : Oper} {a : Act} {Q : Exit → Act → World → Prop} {w : World}
theorem box_pt (hg : o.guard = none) {d : Tmp} (hd : o.dst = some d) (x : Operand) (hop : o.op = .box 67 x) (v : PV) (hx : a.eval x = .agg v.cells) (hK : ∀ g w', g = w.heap.size → VAt w' g 67 v.cells → Below w.heap.size w w' → wpList Try.prog ops Q rest (a.put o.dst (.pointer (some ⟨g, 0, none⟩))) w') : wpList Try.prog ops Q (o :: rest) a w := by
  refine box_event hg hd (cs := v.cells) (t := 67) ?_ (fun g hgs w1 hb hbl => hK g w1 hgs hb hbl)
  have hrun : (Instr.box 67 (.agg v.cells)).run Try.prog w = .ok (.pointer (some ⟨w.heap.size, 0, none⟩)) (w.alloc (.cells v.cells 67)) := by
    simp [Instr.box, newVar, newRow, Value.cells, go_sem]
  simp [execOp, hop, hx, Result.andThen, hrun]
end
theorem VAt.c5 {w : World} {g : Nat} {v : PV} (h : VAt w g 67 v.cells) : w.cell? ⟨g, 5, none⟩ = some (.int .i64 v.le) := (blk_cell h 5).trans rfl
theorem VAt.c6 {w : World} {g : Nat} {v : PV} (h : VAt w g 67 v.cells) : w.cell? ⟨g, 6, none⟩ = some (.int .i64 v.mo) := (blk_cell h 6).trans rfl
theorem VAt.c7 {w : World} {g : Nat} {v : PV} (h : VAt w g 67 v.cells) : w.cell? ⟨g, 7, none⟩ = some (.bool v.nu) := (blk_cell h 7).trans rfl
theorem VAt.c8 {w : World} {g : Nat} {v : PV} (h : VAt w g 67 v.cells) : w.cell? ⟨g, 8, none⟩ = some (.slice (v.b.map fun g => ⟨g, 0, none⟩) v.n v.cap) := (blk_cell h 8).trans rfl
theorem VAt.c0 {w : World} {g : Nat} {v : PV} (h : VAt w g 67 v.cells) : w.cell? ⟨g, 0, none⟩ = some (.int .i64 v.k) := (blk_cell h 0).trans rfl
set_option maxHeartbeats 4000000 in
theorem times.calls (v : PV) (W : World) (h : 0 ≤ v.le ∧ v.le ≤ 60) : Calls Try.prog 53 #[.agg v.cells] W fun e w' => e = .returned (.int .i64 (timesP v.le v.mo v.nu)) ∧ Below W.heap.size W w' := by
  obtain ⟨r, hr⟩ : ∃ r, timesP v.le v.mo v.nu = r := ⟨_, rfl⟩
  rw [hr]
  unfold timesP at hr
  have w1 : IntKind.i64.wrap (v.le + 1) = v.le + 1 := by rw [IntKind.wrap_i64]; omega
  cases hn : v.nu with
  | true =>
    rw [hn, if_pos rfl] at hr
    by_cases c : v.mo < 0
    · rw [if_pos c] at hr
      have HR := Aside0.mk hr
      have d : decide (v.mo < 0) = true := decide_eq_true c
      clear hr c
      go_enter Try.func53, Try.ntmps53
      go_wp2_with ((with_reducible refine gate_box (t := 67) (d := 1) rfl rfl ?_); refine box_pt rfl rfl _ rfl v rfl ?_; intro g w1 hg1 hc1 hb1; have HB := Aside0.mk hb1; have k5 := hc1.c5; have k6 := hc1.c6; have k7 := hc1.c7; rw [hn] at k7; clear hg1 hc1 hb1)
      go_ret
      exact ⟨by rw [HR.out]; rfl, HB.out⟩
    · rw [if_neg c] at hr
      have HR := Aside0.mk hr
      have d : decide (v.mo < 0) = false := decide_eq_false c
      clear hr c
      go_enter Try.func53, Try.ntmps53
      go_wp2_with ((with_reducible refine gate_box (t := 67) (d := 1) rfl rfl ?_); refine box_pt rfl rfl _ rfl v rfl ?_; intro g w1 hg1 hc1 hb1; have HB := Aside0.mk hb1; have k5 := hc1.c5; have k6 := hc1.c6; have k7 := hc1.c7; rw [hn] at k7; clear hg1 hc1 hb1)
      go_ret
      exact ⟨by rw [HR.out]; rfl, HB.out⟩
  | false =>
    rw [hn, if_neg (by decide)] at hr
    have HR := Aside0.mk hr
    clear hr
    go_enter Try.func53, Try.ntmps53
    go_wp2_with ((with_reducible refine gate_box (t := 67) (d := 1) rfl rfl ?_); refine box_pt rfl rfl _ rfl v rfl ?_; intro g w1 hg1 hc1 hb1; have HB := Aside0.mk hb1; have k5 := hc1.c5; have k6 := hc1.c6; have k7 := hc1.c7; rw [hn] at k7; clear hg1 hc1 hb1)
    go_ret
    exact ⟨by rw [HR.out]; rfl, HB.out⟩
end Go.Proofs.Ytclgnefeankbgaa.M
namespace Go.Proofs.Ytclgnefeankbgaa.M
open Go Go.RowKit Go.Proofs.YtclgnefeankbgaaW.PrintWords Go.Proofs.YtclgnefeankbgaaW.PrintLast Go.Proofs.YtclgnefeankbgaaW.PrintMore Hand
attribute [local go_sem] Oper.semAt_some max2_int min2_int max_two min_two max_three min_three max_four min_four
set_option linter.unusedVariables false
set_option linter.unusedSimpArgs false
/-- A walk over a part's row: the place i, what is left. -/
structure SZ (W w : World) (r : Nat) (v : PV) (ws : List PV) (i : Nat) (f : Pt) : Prop where
  b : Below W.heap.size W w
  h1 : VAt w r 67 v.cells
  row : RowP w (fun _ => True) v ws
  fv : FV w (fun _ => True) f (ws.drop i)
theorem SZ.move {W w w' : World} {r i : Nat} {v : PV} {ws : List PV} {f : Pt} (h : SZ W w r v ws i f) (hb : Below w.heap.size w w') : SZ W w' r v ws i f := ⟨h.b.trans (hb.mono h.b.size), h.h1.move hb, h.row.move fun k _ hk => hb.block k hk, h.fv.move fun k _ hk => hb.block k hk⟩
theorem SZ.next {W w : World} {r i : Nat} {v : PV} {ws : List PV} {k : Int} {c : C4} {le mo : Int} {nu : Bool} {kids rest : Pt} (h : SZ W w r v ws i (.cons k c le mo nu kids rest)) : ∃ u kb, ws[i]? = some u ∧ v.b = some kb ∧ (∀ j x, u.cells[j]? = some x → w.cell? ⟨kb, i * 9 + j, none⟩ = some x) ∧ FV w (fun _ => True) (.cons k c le mo nu kids .nil) [u] ∧ SZ W w r v ws (i + 1) rest := by
  obtain ⟨hb, h1, hrow, u, vs', h0, a1, a2, a3, a4, a5, a6, a7⟩ := h
  have hi : ws[i]? = some u := by
    have := congrArg (fun l => l[0]?) h0
    simp only [List.getElem?_drop, Nat.add_zero, List.getElem?_cons_zero] at this
    exact this
  have hv : vs' = ws.drop (i + 1) := by
    have := congrArg List.tail h0
    rw [List.tail_drop] at this
    exact this.symm
  obtain ⟨kb, hkb, hc⟩ := row_cells hrow hi
  subst hv
  exact ⟨u, kb, hi, hkb, hc, ⟨u, [], rfl, a1, a2, a3, a4, a5, a6, rfl⟩, hb, h1, hrow, a7⟩
set_option maxHeartbeats 8000000 in
set_option maxRecDepth 100000 in
theorem size.calls : ∀ (m : Nat) (k : Int) (c : C4) (le mo : Int) (nu : Bool) (kids : Pt) (v : PV) (W : World), kids.sz < m → FV W (fun _ => True) (.cons k c le mo nu kids .nil) [v] → (Pt.cons k c le mo nu kids .nil).ok →
    Calls Try.prog 35 #[.agg v.cells] W fun e w' => e = .returned (.int .i64 (szOf k le mo nu (sumP kids 0) kids.len)) ∧ Below W.heap.size W w'
  | 0, k, c, le, mo, nu, kids, v, W, hm, hf, hok => by omega
  | m + 1, k, c, le, mo, nu, kids, v, W, hm, hf, hok => by
    have HIH : Aside0 (∀ k c le mo nu kids' v W, kids'.sz < kids.sz → FV W (fun _ => True) (.cons k c le mo nu kids' .nil) [v] → (Pt.cons k c le mo nu kids' .nil).ok → Calls Try.prog 35 #[.agg v.cells] W fun e w' => e = .returned (.int .i64 (szOf k le mo nu (sumP kids' 0) kids'.len)) ∧ Below W.heap.size W w') := ⟨fun k c le mo nu kids' v W h1 h2 h3 => size.calls m k c le mo nu kids' v W (by omega) h2 h3⟩
    obtain ⟨hk, hc, hle, hmo, hnu⟩ := hf.head
    obtain ⟨v', vs', h0, _, _, _, _, _, ⟨ws, hrow, hkids⟩, _⟩ := hf
    cases h0
    subst hk hc hle hmo hnu
    have hlen := FV.len hkids
    have hn : v.n = kids.len := by rw [hrow.1, hlen]
    obtain ⟨hr0, hkok, _⟩ := hok
    have hsum := sumP_range kids 0 hkok (by omega) (by omega)
    obtain ⟨total, htot⟩ : ∃ t, sumP kids 0 = t := ⟨_, rfl⟩
    have HT := Aside0.mk htot
    rw [htot] at hsum ⊢
    obtain ⟨r, hr⟩ : ∃ r, szOf v.k v.le v.mo v.nu total kids.len = r := ⟨_, rfl⟩
    have HR := Aside0.mk hr
    rw [hr]
    obtain ⟨A, hA⟩ : ∃ A, v.b.map (fun g => (⟨g, 0, none⟩ : Addr)) = A := ⟨_, rfl⟩
    have HA := Aside0.mk hA
    have HK := Aside0.mk hkids
    have HRW := Aside0.mk hrow
    have HOK := Aside0.mk hkok
    have HR0 := Aside0.mk hr0
    have HN := Aside0.mk hn
    have hn200 : v.n ≤ 300 := by omega
    have HSU := Aside0.mk hsum
    obtain ⟨N, hN⟩ : ∃ N, v.n = N := ⟨_, rfl⟩
    rw [hN] at hn hn200
    have HNN := Aside0.mk hN
    have HNK := Aside0.mk hn
    clear hn hr htot hA hkids hrow hkok hr0 hsum hlen hm hN
    go_enter Try.func35, Try.ntmps35
    go_wp2_with ((with_reducible refine gate_box (t := 67) (d := 1) rfl rfl ?_); refine box_pt rfl rfl _ rfl v rfl ?_; intro r1 w1 hg1 hc1 hb1; have HS : Aside0 (SZ W w1 r1 v ws 0 kids) := ⟨⟨hb1, hc1, (HRW.out.mono fun _ _ _ => trivial).move fun k _ hk => hb1.block k hk, HK.out.move fun k _ hk => hb1.block k hk⟩⟩; have k8 := hc1.c8; rw [HA.out, HNN.out] at k8; clear hg1 hc1 hb1)
    go_loopg [3, 9] kids.len (fun kq v3 v9 w' => ∃ (n : Int) (i : Nat) (f : Pt), v3 = .int .i64 n ∧ v9 = .int .i64 (i : Int) ∧ f.len = kq ∧ i + kq = N ∧ 0 ≤ n ∧ n ≤ 600 ∧ f.sz ≤ kids.sz ∧ f.ok ∧ Aside0 (sumP f n = total) ∧ Aside0 (SZ W w' r1 v ws i f))
    case atStart => exact ⟨0, 0, kids, rfl, rfl, rfl, (by have := HNK.out; omega), by omega, by omega, Nat.le_refl _, HOK.out, HT, HS⟩
    case round =>
      clear HS HT k8
      obtain ⟨n, i, f, rfl, rfl, hfl, hin, hn0, hn1, hfz, hfok, HB0, HS⟩ := hrel
      cases f with
      | nil =>
        have e0 : n = total := HB0.out
        subst e0
        have hi : i = N := by have : (Pt.nil).len = gk := hfl; unfold Pt.len at this; omega
        have hr2 := HR.out
        unfold szOf at hr2
        rw [← HNK.out] at hr2
        have d0 : decide ((i : Int) < (N : Int)) = false := decide_eq_false (by omega)
        have d1 : decide (i < N) = false := decide_eq_false (by omega)
        have k0 := HS.out.h1.c0
        have k8 := HS.out.h1.c8
        rw [HA.out, HNN.out] at k8
        clear hi hfl hin HB0
        by_cases c4 : v.k = 4
        · rw [if_pos c4] at hr2
          have e4 : (v.k == 4) = true := beq_iff_eq.2 c4
          have w1 : IntKind.i64.wrap (n + (N : Int)) = n + (N : Int) := by rw [IntKind.wrap_i64]; omega
          have w2 : IntKind.i64.wrap (n + (N : Int) - 1) = n + (N : Int) - 1 := by rw [IntKind.wrap_i64]; omega
          have HR2 := Aside0.mk hr2
          clear hr2 c4
          go_wp2
          (try simp only [Exit.inBlock, Exit.then])
          go_ret
          exact ⟨by rw [← HR2.out]; rfl, HS.out.b⟩
        rw [if_neg c4] at hr2
        have e4 : (v.k == 4) = false := beq_eq_false_iff_ne.2 c4
        clear c4
        by_cases c5 : v.k = 5
        · rw [if_pos c5] at hr2
          have e5 : (v.k == 5) = true := beq_iff_eq.2 c5
          have htr := timesP_range (nu := v.nu) ⟨HR0.out.1, HR0.out.2.1, HR0.out.2.2.1, HR0.out.2.2.2.1⟩
          have HTM : Aside0 (∀ W', Calls Try.prog 53 #[.agg v.cells] W' fun e w' => e = .returned (.int .i64 (timesP v.le v.mo v.nu)) ∧ Below W'.heap.size W' w') := ⟨fun W' => times.calls v W' ⟨HR0.out.1, HR0.out.2.1⟩⟩
          obtain ⟨tm, htm⟩ : ∃ tm, timesP v.le v.mo v.nu = tm := ⟨_, rfl⟩
          rw [htm] at hr2 htr HTM
          have m0 := Int.mul_nonneg hn0 htr.1
          have m1 := Int.mul_le_mul hn1 htr.2 htr.1 (by omega : (0 : Int) ≤ 600)
          have w1 : IntKind.i64.wrap (n * tm) = n * tm := by rw [IntKind.wrap_i64]; omega
          have w2 : IntKind.i64.wrap (n * tm + 1) = n * tm + 1 := by rw [IntKind.wrap_i64]; omega
          have HR2 := Aside0.mk hr2
          clear hr2 c5 htm m0 m1 htr
          go_wp2_with (first
            | (go_at_call 53; (with_reducible refine (HTM.out _).mono ?_); rintro e w5 ⟨rfl, hb⟩; have HS2 := Aside0.mk (HS.out.move hb); clear hb)
            | ((with_reducible refine gate_load (t := 67) (p := 1) rfl ?_); refine load_pt rfl 1 rfl _ rfl v HS.out.h1 ?_))
          (try simp only [Exit.inBlock, Exit.then])
          go_ret
          exact ⟨by rw [← HR2.out]; rfl, HS2.out.b⟩
        rw [if_neg c5] at hr2
        have e5 : (v.k == 5) = false := beq_eq_false_iff_ne.2 c5
        clear c5
        by_cases c3 : v.k = 3
        · rw [if_pos c3] at hr2
          have e3 : (v.k == 3) = true := beq_iff_eq.2 c3
          have HR2 := Aside0.mk hr2
          clear hr2 c3
          go_wp2
          (try simp only [Exit.inBlock, Exit.then])
          go_ret
          exact ⟨by rw [← HR2.out]; rfl, HS.out.b⟩
        rw [if_neg c3] at hr2
        have e3 : (v.k == 3) = false := beq_eq_false_iff_ne.2 c3
        have HR2 := Aside0.mk hr2
        clear hr2 c3
        go_wp2
        (try simp only [Exit.inBlock, Exit.then])
        go_ret
        exact ⟨by rw [← HR2.out]; rfl, HS.out.b⟩
      | cons k' c' le' mo' nu' kids' rest =>
        obtain ⟨u, kb, hi, hkb, hcs, hfu, hnext⟩ := HS.out.next
        have hA2 : A = some ⟨kb, 0, none⟩ := by rw [← HA.out, hkb]; rfl
        obtain ⟨k, rfl⟩ : ∃ k, gk = k + 1 := ⟨gk - 1, by have : rest.len + 1 = gk := hfl; omega⟩
        have hrl : rest.len = k := by have : rest.len + 1 = k + 1 := hfl; omega
        have hsz : kids'.sz < kids.sz ∧ rest.sz ≤ kids.sz := by have : kids'.sz + rest.sz + 1 ≤ kids.sz := hfz; omega
        obtain ⟨hk0, hk1, hk2⟩ := hfok
        have hx0 := sumP_range kids' 0 hk1 (by omega) (by omega)
        have hx := szOf_range (k := k') (nu := nu') (len := kids'.len) ⟨hk0.1, hk0.2.1, hk0.2.2.1, hk0.2.2.2.1⟩ hk0.2.2.2.2.1 hk0.2.2.2.2.2.1 hx0.1 hx0.2
        have HCALL : Aside0 (∀ W', FV W' (fun _ => True) (.cons k' c' le' mo' nu' kids' .nil) [u] → Calls Try.prog 35 #[.agg u.cells] W' fun e w' => e = .returned (.int .i64 (szOf k' le' mo' nu' (sumP kids' 0) kids'.len)) ∧ Below W'.heap.size W' w') := ⟨fun W' h => HIH.out k' c' le' mo' nu' kids' u W' hsz.1 h ⟨hk0, hk1, trivial⟩⟩
        have hb := HB0.out
        rw [sumP] at hb
        obtain ⟨x, hxx⟩ : ∃ x, szOf k' le' mo' nu' (sumP kids' 0) kids'.len = x := ⟨_, rfl⟩
        rw [hxx] at hb hx HCALL
        have HB1 := Aside0.mk hb
        have HC := Aside0.mk hcs
        have HFU := Aside0.mk hfu
        have HNX := Aside0.mk hnext
        have hiN : i < N := by omega
        have i0 : (0 : Int) ≤ (i : Int) := by omega
        have i1 : (i : Int) < (N : Int) := by omega
        have d0 : decide ((i : Int) < (N : Int)) = true := decide_eq_true i1
        have d1 : decide (i < N) = true := decide_eq_true hiN
        have w1 : IntKind.i64.wrap (n + x) = n + x := by rw [IntKind.wrap_i64]; omega
        have w2 : IntKind.i64.wrap ((i : Int) + 1) = (i : Int) + 1 := by rw [IntKind.wrap_i64]; omega
        clear hb hxx hcs hfu hnext HB0 hi hx0 hk0 hk1 hkb hfl
        subst hA2
        go_wp2_with (first
          | (go_at_call 35; (with_reducible refine (HCALL.out _ HF3.out).mono ?_); rintro e w5 ⟨rfl, hb⟩; have HS5 := Aside0.mk (HS3.out.move hb); clear hb)
          | ((with_reducible refine gate_load (t := 67) (p := 5) rfl ?_); refine load_pt rfl 5 rfl _ rfl u HV3.out ?_)
          | ((with_reducible refine gate_storeT (t := 67) (p := 5) rfl ?_); refine store_pt rfl 5 _ rfl _ rfl PV.nil u rfl HV2.out.1 ?_; intro w4 hc hm; have HV3 := Aside0.mk hc; have HS3 := Aside0.mk (HNX.out.move (hm.below HV2.out.2.1 (by have := HV2.out.2.2; omega) (by have := HV2.out.2.1.size; omega))); have HF3 : Aside0 (FV w4 (fun _ => True) (.cons k' c' le' mo' nu' kids' .nil) [u]) := ⟨HFU.out.move fun z _ hz => (hm.below HV2.out.2.1 (by have := HV2.out.2.2; omega) (by have := HV2.out.2.1.size; omega)).block z hz⟩; clear hc hm)
          | ((with_reducible refine gate_alloc (t := 67) (d := 5) rfl rfl ?_); refine alloc_pt rfl rfl rfl ?_; intro r5 w3 hg1 hc1 hb1; have HV2 : Aside0 (VAt w3 r5 67 PV.nil.cells ∧ Below wr.heap.size wr w3 ∧ r5 = wr.heap.size) := ⟨hc1, hb1, hg1⟩; clear hg1 hc1 hb1)
          | ((with_reducible refine gate_load (t := 67) (p := 11) rfl ?_); refine load_ptc rfl 11 rfl kb (i * 9) rfl u HC.out ?_))
        all_goals (
          go_roundg k
          case measure => omega
          case rel => exact ⟨_, i + 1, rest, rfl, rfl, hrl, by omega, by omega, by omega, hsz.2, hk2, ⟨by rw [← HB1.out]; congr 1; omega⟩, HS5⟩)
end Go.Proofs.Ytclgnefeankbgaa.M
