/- The steps of a part: what its walk needs. Conditions: as each theorem says. -/
import Derived.Test.YtclgnefeankbgaaM21
namespace Go.Proofs.Ytclgnefeankbgaa.M
open Go Go.RowKit Go.Proofs.YtclgnefeankbgaaW.PrintWords Go.Proofs.YtclgnefeankbgaaW.PrintLast Go.Proofs.YtclgnefeankbgaaW.PrintMore Hand
attribute [local go_sem] Oper.semAt_some max2_int min2_int max_two min_two max_three min_three max_four min_four
set_option linter.unusedVariables false
set_option linter.unusedSimpArgs false
section
variable {ops : Array Oper} {rest : List Oper} {o : Oper} {a : Act} {Q : Exit → Act → World → Prop} {w : World}
theorem build_sc (hg : o.guard = none) (x : Operand) (hop : o.op = .build 76 #[(0, .const (.int .i64 0)), (1, x)]) (c : C4) (hx : a.eval x = .agg c.cells) (hK : wpList Try.prog ops Q rest (a.put o.dst (.agg (⟨0, c, 0, 0⟩ : ST).cells)) w) : wpList Try.prog ops Q (o :: rest) a w := by
  have hb : Try.prog.built 76 [(0, .int .i64 0), (1, .agg c.cells)] = some (⟨0, c, 0, 0⟩ : ST).cells := by kernel_rfl
  have e1 : a.eval (.const (.int .i64 0)) = .int .i64 0 := rfl
  refine wpList_build hg 76 _ hop ?_ ?_
  · simp only [List.map_toArray, List.map_cons, List.map_nil, e1, hx, hb]; rfl
  · simp only [List.map_toArray, List.map_cons, List.map_nil, e1, hx, hb, Option.getD_some]; exact hK
theorem build_sk (hg : o.guard = none) (k : Int) (hop : o.op = .build 76 #[(0, .const (.int .i64 k))]) (hK : wpList Try.prog ops Q rest (a.put o.dst (.agg (⟨k, C4.nil, 0, 0⟩ : ST).cells)) w) : wpList Try.prog ops Q (o :: rest) a w := by
  have hb : Try.prog.built 76 [(0, .int .i64 k)] = some (⟨k, C4.nil, 0, 0⟩ : ST).cells := by kernel_rfl
  have e1 : a.eval (.const (.int .i64 k)) = .int .i64 k := rfl
  refine wpList_build hg 76 _ hop ?_ ?_
  · simp only [List.map_toArray, List.map_cons, List.map_nil, e1, hb]; rfl
  · simp only [List.map_toArray, List.map_cons, List.map_nil, e1, hb, Option.getD_some]; exact hK
theorem build_sa (hg : o.guard = none) (k : Int) (x : Operand) (hop : o.op = .build 76 #[(0, .const (.int .i64 k)), (2, x)]) (n : Int) (hx : a.eval x = .int .i64 n) (hK : wpList Try.prog ops Q rest (a.put o.dst (.agg (⟨k, C4.nil, n, 0⟩ : ST).cells)) w) : wpList Try.prog ops Q (o :: rest) a w := by
  have hb : Try.prog.built 76 [(0, .int .i64 k), (2, .int .i64 n)] = some (⟨k, C4.nil, n, 0⟩ : ST).cells := by kernel_rfl
  have e1 : a.eval (.const (.int .i64 k)) = .int .i64 k := rfl
  refine wpList_build hg 76 _ hop ?_ ?_
  · simp only [List.map_toArray, List.map_cons, List.map_nil, e1, hx, hb]; rfl
  · simp only [List.map_toArray, List.map_cons, List.map_nil, e1, hx, hb, Option.getD_some]; exact hK
theorem load_clp (hg : o.guard = none) (p : Tmp) (hop : o.op = .load 64 (.tmp p)) (g : Nat) (hp : a.eval (.tmp p) = .pointer (some ⟨g, 1, none⟩)) (v : PV) (h : VAt w g 67 v.cells) (hK : wpList Try.prog ops Q rest (a.put o.dst (.agg v.c.cells)) w) : wpList Try.prog ops Q (o :: rest) a w := by
  refine wpList_plain hg fun K' hK' => ?_
  have c1 : w.cell? ⟨g, 1, none⟩ = some (.int .u64 v.c.a) := (blk_cell h 1).trans rfl
  have c2 : w.cell? ⟨g, 2, none⟩ = some (.int .u64 v.c.b) := (blk_cell h 2).trans rfl
  have c3 : w.cell? ⟨g, 3, none⟩ = some (.int .u64 v.c.c) := (blk_cell h 3).trans rfl
  have c4 : w.cell? ⟨g, 4, none⟩ = some (.int .u64 v.c.d) := (blk_cell h 4).trans rfl
  have hl : (loadVar 64 ⟨g, 1, none⟩).run Try.prog w = .ok (.agg v.c.cells) w := by
    simp [loadVar, Sem.run_bind, clAgg w, clSize w, loadCells, c1, c2, c3, c4, go_sem]
    rfl
  have hrun : (Instr.loadAt 64 (.pointer (some ⟨g, 1, none⟩))).run Try.prog w = .ok (.agg v.c.cells) w := by
    simp [Instr.loadAt, Sem.run_bind, Instr.sureAddr, hl]
  unfold Oper.wp
  simp [execOp, hop, hp, hrun, Result.andThen]
  exact hK' _ _ hK
end
/-- A pattern, a part's variable, the part's row from a place on. -/
structure CD (lo pp : Nat) (s : ByteArray) (z : Int) (b0 : Option Nat) (W w : World) (r : Nat) (v : PV) (ws : List PV) (i : Nat) (f : Pt) (xs : List ST) (b : Option Nat) : Prop where
  ps : PS w pp s z xs b
  ch : Ch pp b0 W w b
  h3 : VAt w r 67 v.cells
  lr : W.heap.size ≤ r
  nr : r ≠ pp
  br : b ≠ some r
  lp : lo ≤ pp
  lb : ∀ k, b = some k → lo ≤ k
  lw : lo ≤ W.heap.size
  row : RowP w (fun k => k < lo) v ws
  fv : FV w (fun k => k < lo) f (ws.drop i)
section
variable {lo pp : Nat} {s : ByteArray} {z : Int} {b0 : Option Nat} {W w w' : World} {r : Nat} {v : PV} {ws : List PV} {i : Nat} {f : Pt} {xs ys : List ST} {b b' : Option Nat}
/-- Steps have been put. -/
theorem CD.step (h : CD lo pp s z b0 W w r v ws i f xs b) (hp : PS w' pp s z ys b') (hc : Ch pp b w w' b') : CD lo pp s z b0 W w' r v ws i f ys b' := by
  have hl := blk_lt h.h3
  have hwsz : W.heap.size ≤ w.heap.size := h.ch.size
  have hlw := h.lw
  have hlp := h.lp
  have key : ∀ k, k < lo → k < w.heap.size → w'.heap[k]? = w.heap[k]? := fun k hk hkw => hc.block k hkw (by omega) (fun e => by have := h.lb k e; omega)
  refine ⟨hp, h.ch.trans hc, (hc.block r hl h.nr h.br).trans h.h3, h.lr, h.nr, fun e => ?_, h.lp, fun k hk => ?_, h.lw, h.row.move key, h.fv.move key⟩
  · rcases hc.own with ho | ho
    · exact h.br (ho ▸ e)
    · have := ho r e; omega
  · rcases hc.own with ho | ho
    · exact h.lb k (ho ▸ hk)
    · have := ho k hk; omega
theorem CD.call (h : CD lo pp s z b0 W w r v ws i f xs b) (hb : Below w.heap.size w w') : CD lo pp s z b0 W w' r v ws i f xs b := h.step (h.ps.call hb) (Ch.of_below hb)
theorem CD.next {k : Int} {c : C4} {le mo : Int} {nu : Bool} {kids rest : Pt} (h : CD lo pp s z b0 W w r v ws i (.cons k c le mo nu kids rest) xs b) : ∃ u kb, ws[i]? = some u ∧ v.b = some kb ∧ (∀ j x, u.cells[j]? = some x → w.cell? ⟨kb, i * 9 + j, none⟩ = some x) ∧ FV w (fun k => k < lo) (.cons k c le mo nu kids .nil) [u] ∧ CD lo pp s z b0 W w r v ws (i + 1) rest xs b := by
  obtain ⟨a1, a2, a3, a4, a5, a6, a7, a8, a9, hrow, u, vs', h0, c1, c2, c3, c4, c5, c6, c7⟩ := h
  have hi : ws[i]? = some u := by
    have := congrArg (fun l => l[0]?) h0
    simp only [List.getElem?_drop, Nat.add_zero, List.getElem?_cons_zero] at this
    exact this
  have hv : vs' = ws.drop (i + 1) := by
    have := congrArg List.tail h0
    rw [List.tail_drop] at this
    exact this.symm
  obtain ⟨kb, hkb, hc⟩ := row_cells (hrow.mono (Y := fun _ => True) fun _ _ _ => trivial) hi
  subst hv
  exact ⟨u, kb, hi, hkb, hc, ⟨u, [], rfl, c1, c2, c3, c4, c5, c6, rfl⟩, a1, a2, a3, a4, a5, a6, a7, a8, a9, hrow, c7⟩
theorem CD.k2 (h : CD lo pp s z b0 W w r v ws i f xs b) : ∃ cap, w.cell? ⟨pp, 2, none⟩ = some (.slice (b.map fun g => ⟨g, 0, none⟩) xs.length cap) ∧ w.frozen? ⟨pp, 2, none⟩ = false := by
  obtain ⟨⟨cap, h1, _⟩, _⟩ := h.ps
  exact ⟨cap, (blk_cell h1 2).trans rfl, blk_frozen h1 2⟩
end
/-- What a call that writes the steps of a part asks and leaves. -/
def CodeC (F : FuncId) (arg : PV → Value) (code : List ST → List ST) (t : Pt) (most : Nat) : Prop :=
  ∀ (lo pp : Nat) (s : ByteArray) (z : Int) (xs : List ST) (b : Option Nat) (v : PV) (W : World), PS W pp s z xs b → lo ≤ pp → (∀ k, b = some k → lo ≤ k) → lo ≤ W.heap.size → FV W (fun k => k < lo) t [v] → xs.length + most ≤ 1900 →
    Calls Try.prog F #[.pointer (some ⟨pp, 0, none⟩), arg v] W fun e w' => ∃ b', e = .returned (.tuple #[]) ∧ PS w' pp s z (code xs) b' ∧ Ch pp b W w' b'
end Go.Proofs.Ytclgnefeankbgaa.M
namespace Go.Proofs.Ytclgnefeankbgaa.M
open Go Go.RowKit Go.Proofs.YtclgnefeankbgaaW.PrintWords Go.Proofs.YtclgnefeankbgaaW.PrintLast Go.Proofs.YtclgnefeankbgaaW.PrintMore Hand
attribute [local go_sem] Oper.semAt_some max2_int min2_int max_two min_two max_three min_three max_four min_four
set_option linter.unusedVariables false
set_option linter.unusedSimpArgs false
theorem CD.new {lo pp : Nat} {s : ByteArray} {z : Int} {xs : List ST} {b : Option Nat} {v : PV} {W w : World} {r : Nat} {kids : Pt} {ws : List PV} (hp : PS W pp s z xs b) (h1 : lo ≤ pp) (h2 : ∀ k, b = some k → lo ≤ k) (h3 : lo ≤ W.heap.size) (hrow : RowP W (fun k => k < lo) v ws) (hk : FV W (fun k => k < lo) kids ws) (hr : r = W.heap.size) (hc : VAt w r 67 v.cells) (hb : Below W.heap.size W w) : CD lo pp s z b W w r v ws 0 kids xs b := by
  have hl := hp.lt
  have hbl := fun k hk => hp.blt (k := k) hk
  exact ⟨hp.call hb, Ch.of_below hb, hc, by omega, by omega, fun e => by have := hbl r e; omega, h1, h2, h3, hrow.move fun k _ hk => hb.block k hk, hk.move fun k _ hk => hb.block k hk⟩
set_option maxHeartbeats 8000000 in
set_option maxRecDepth 100000 in
/-- A byte, the begin, the end. -/
theorem code.leaf (k : Int) (c : C4) (le mo : Int) (nu : Bool) (kids : Pt) (fs : List (List ST → List ST)) (hk : k = 0 ∨ k = 1 ∨ k = 2) : CodeC 36 (fun v => .agg v.cells) (code1 k c le mo fs) (.cons k c le mo nu kids .nil) 1 := by
  intro lo pp s z xs b v W hp h1 h2 h3 hf hl
  obtain ⟨hvk, hvc, _⟩ := hf.head
  obtain ⟨v', vs', h0, _, _, _, _, _, ⟨ws, hrow, hkids⟩, _⟩ := hf
  cases h0
  have hnew := fun w r hr hc hb => CD.new (w := w) (r := r) hp h1 h2 h3 hrow hkids hr hc hb
  have HNW := Aside0.mk hnew
  have HL : Aside0 (xs.length ≤ 2000) := ⟨by omega⟩
  obtain ⟨ys, hys⟩ : ∃ ys, code1 k c le mo fs xs = ys := ⟨_, rfl⟩
  rw [hys]
  unfold code1 at hys
  clear hnew hp h1 h2 h3 hrow hkids hl
  rcases hk with rfl | rfl | rfl
  · rw [if_pos rfl] at hys
    have HY := Aside0.mk hys
    clear hys hvc
    go_enter Try.func36, Try.ntmps36
    go_wp2_with (first
      | (go_at_call 37; (with_reducible refine (put.calls pp ⟨0, c, 0, 0⟩ s z xs b _ HS.out.ps HL.out).mono ?_); rintro e w5 ⟨b', rfl, hp, hc⟩; have HS2 := Aside0.mk (HS.out.step hp hc); clear hp hc)
      | ((with_reducible refine gate_build (t := 76) rfl ?_); refine build_sc rfl _ rfl v.c rfl ?_)
      | ((with_reducible refine gate_load (t := 64) (p := 14) rfl ?_); refine load_clp rfl 14 rfl _ rfl v HS.out.h3 ?_)
      | ((with_reducible refine gate_box (t := 67) (d := 3) rfl rfl ?_); refine box_pt rfl rfl _ rfl v rfl ?_; intro r3 w1 hg1 hc1 hb1; have HS := Aside0.mk (HNW.out w1 r3 hg1 hc1 hb1); have k0 := hc1.c0; rw [hvk] at k0; clear hg1 hc1 hb1))
    go_end0
    exact ⟨b', rfl, by rw [← HY.out]; exact HS2.out.ps, HS2.out.ch⟩
  · rw [if_neg (by decide), if_pos rfl] at hys
    have HY := Aside0.mk hys
    clear hys hvc
    go_enter Try.func36, Try.ntmps36
    go_wp2_with (first
      | (go_at_call 37; (with_reducible refine (put.calls pp ⟨1, C4.nil, 0, 0⟩ s z xs b _ HS.out.ps HL.out).mono ?_); rintro e w5 ⟨b', rfl, hp, hc⟩; have HS2 := Aside0.mk (HS.out.step hp hc); clear hp hc)
      | ((with_reducible refine gate_build (t := 76) rfl ?_); refine build_sk rfl 1 rfl ?_)
      | ((with_reducible refine gate_box (t := 67) (d := 3) rfl rfl ?_); refine box_pt rfl rfl _ rfl v rfl ?_; intro r3 w1 hg1 hc1 hb1; have HS := Aside0.mk (HNW.out w1 r3 hg1 hc1 hb1); have k0 := hc1.c0; rw [hvk] at k0; clear hg1 hc1 hb1))
    go_end0
    exact ⟨b', rfl, by rw [← HY.out]; exact HS2.out.ps, HS2.out.ch⟩
  · rw [if_neg (by decide), if_neg (by decide), if_pos rfl] at hys
    have HY := Aside0.mk hys
    clear hys hvc
    go_enter Try.func36, Try.ntmps36
    go_wp2_with (first
      | (go_at_call 37; (with_reducible refine (put.calls pp ⟨2, C4.nil, 0, 0⟩ s z xs b _ HS.out.ps HL.out).mono ?_); rintro e w5 ⟨b', rfl, hp, hc⟩; have HS2 := Aside0.mk (HS.out.step hp hc); clear hp hc)
      | ((with_reducible refine gate_build (t := 76) rfl ?_); refine build_sk rfl 2 rfl ?_)
      | ((with_reducible refine gate_box (t := 67) (d := 3) rfl rfl ?_); refine box_pt rfl rfl _ rfl v rfl ?_; intro r3 w1 hg1 hc1 hb1; have HS := Aside0.mk (HNW.out w1 r3 hg1 hc1 hb1); have k0 := hc1.c0; rw [hvk] at k0; clear hg1 hc1 hb1))
    go_end0
    exact ⟨b', rfl, by rw [← HY.out]; exact HS2.out.ps, HS2.out.ch⟩
set_option maxHeartbeats 8000000 in
set_option maxRecDepth 100000 in
/-- Alternatives, a repetition: by the other two. -/
theorem code.rest (k : Int) (c : C4) (le mo : Int) (nu : Bool) (kids : Pt) (code : List ST → List ST) (most : Nat) (hk : k = 4 ∨ k = 5) (ha : k = 4 → CodeC 54 (fun v => v.sl) code (.cons k c le mo nu kids .nil) most) (hr : k = 5 → CodeC 55 (fun v => .agg v.cells) code (.cons k c le mo nu kids .nil) most) : CodeC 36 (fun v => .agg v.cells) code (.cons k c le mo nu kids .nil) most := by
  intro lo pp s z xs b v W hp h1 h2 h3 hf hl
  have hfw := fun w (hb : Below W.heap.size W w) => hf.move (W' := w) fun k _ hk => hb.block k hk
  have HF := Aside0.mk hfw
  obtain ⟨hvk, hvc, _⟩ := hf.head
  obtain ⟨v', vs', h0, _, _, _, _, _, ⟨ws, hrow, hkids⟩, _⟩ := hf
  cases h0
  have hnew := fun w r hr hc hb => CD.new (w := w) (r := r) hp h1 h2 h3 hrow hkids hr hc hb
  have HNW := Aside0.mk hnew
  have H13 : Aside0 (lo ≤ pp ∧ (∀ k, b = some k → lo ≤ k) ∧ lo ≤ W.heap.size ∧ xs.length + most ≤ 1900) := ⟨h1, h2, h3, hl⟩
  clear hnew hp h1 h2 h3 hrow hkids hl hfw hvc
  rcases hk with rfl | rfl
  · have ha2 := ha rfl
    unfold CodeC at ha2
    dsimp only at ha2
    have HA := Aside0.mk ha2
    clear ha hr ha2
    go_enter Try.func36, Try.ntmps36
    go_wp2_with (first
      | (go_at_call 54; (with_reducible refine (HA.out lo pp s z xs b v _ HS.out.ps H13.out.1 H13.out.2.1 (Nat.le_trans H13.out.2.2.1 HB.out.size) (HF.out _ HB.out) H13.out.2.2.2).mono ?_); rintro e w5 ⟨b', rfl, hp, hc⟩; have HS2 := Aside0.mk (HS.out.step hp hc); clear hp hc)
      | ((with_reducible refine gate_box (t := 67) (d := 3) rfl rfl ?_); refine box_pt rfl rfl _ rfl v rfl ?_; intro r3 w1 hg1 hc1 hb1; have HB := Aside0.mk hb1; have HS := Aside0.mk (HNW.out w1 r3 hg1 hc1 hb1); have k0 := hc1.c0; rw [hvk] at k0; have k8 : w1.cell? ⟨r3, 8, none⟩ = some v.sl := hc1.c8; clear hg1 hc1 hb1))
    go_end0
    exact ⟨b', rfl, HS2.out.ps, HS2.out.ch⟩
  · have ha2 := hr rfl
    unfold CodeC at ha2
    dsimp only at ha2
    have HA := Aside0.mk ha2
    clear ha hr ha2
    go_enter Try.func36, Try.ntmps36
    go_wp2_with (first
      | (go_at_call 55; (with_reducible refine (HA.out lo pp s z xs b v _ HS.out.ps H13.out.1 H13.out.2.1 (Nat.le_trans H13.out.2.2.1 HB.out.size) (HF.out _ HB.out) H13.out.2.2.2).mono ?_); rintro e w5 ⟨b', rfl, hp, hc⟩; have HS2 := Aside0.mk (HS.out.step hp hc); clear hp hc)
      | ((with_reducible refine gate_load (t := 67) (p := 3) rfl ?_); refine load_pt rfl 3 rfl _ rfl v HS.out.h3 ?_)
      | ((with_reducible refine gate_box (t := 67) (d := 3) rfl rfl ?_); refine box_pt rfl rfl _ rfl v rfl ?_; intro r3 w1 hg1 hc1 hb1; have HB := Aside0.mk hb1; have HS := Aside0.mk (HNW.out w1 r3 hg1 hc1 hb1); have k0 := hc1.c0; rw [hvk] at k0; clear hg1 hc1 hb1))
    go_end0
    exact ⟨b', rfl, HS2.out.ps, HS2.out.ch⟩
end Go.Proofs.Ytclgnefeankbgaa.M
namespace Go.Proofs.Ytclgnefeankbgaa.M
open Go Go.RowKit Go.Proofs.YtclgnefeankbgaaW.PrintWords Go.Proofs.YtclgnefeankbgaaW.PrintLast Go.Proofs.YtclgnefeankbgaaW.PrintMore Hand
attribute [local go_sem] Oper.semAt_some max2_int min2_int max_two min_two max_three min_three max_four min_four
set_option linter.unusedVariables false
set_option linter.unusedSimpArgs false
theorem grl_nn : ∀ {fs : List (List ST → List ST)} {zs : List Int}, GrL fs zs → 0 ≤ zs.sum
  | [], [], _ => by simp
  | f :: fs, z :: zs, h => by rw [List.sum_cons]; have := grl_nn h.2.2; have := h.2.1; omega
  | [], _ :: _, h => by cases h
  | _ :: _, [], h => by cases h
/-- The parts of a part are written. -/
def KidsC (kids : Pt) : Prop := ∀ (k' : Int) (c' : C4) (le' mo' : Int) (nu' : Bool) (kids' : Pt), kids'.sz < kids.sz → (Pt.cons k' c' le' mo' nu' kids' .nil).ok → (Pt.cons k' c' le' mo' nu' kids' .nil).fit → szOf k' le' mo' nu' (sumP kids' 0) kids'.len ≤ 300 →
  CodeC 36 (fun v => .agg v.cells) (code1 k' c' le' mo' (codes kids')) (.cons k' c' le' mo' nu' kids' .nil) (bnd (szOf k' le' mo' nu' (sumP kids' 0) kids'.len))
set_option maxHeartbeats 8000000 in
set_option maxRecDepth 100000 in
theorem code.cat (c : C4) (le mo : Int) (nu : Bool) (kids : Pt) (hIH : KidsC kids) (hok : kids.ok) (hfit : kids.fit) (hsz : sumP kids 0 ≤ 300) : CodeC 36 (fun v => .agg v.cells) (code1 3 c le mo (codes kids)) (.cons 3 c le mo nu kids .nil) (bnd (sumP kids 0)) := by
  intro lo pp s z xs b v W hp h1 h2 h3 hf hl
  obtain ⟨hvk, hvc, _⟩ := hf.head
  obtain ⟨v', vs', h0, _, _, _, _, _, ⟨ws, hrow, hkids⟩, _⟩ := hf
  cases h0
  have hse := sum_exact kids 0 hok (Int.le_refl 0) (by omega)
  rw [Int.zero_add] at hse
  have hn : v.n = kids.len := by rw [hrow.1, FV.len hkids]
  have hnew := fun w r hr hc hb => CD.new (w := w) (r := r) hp h1 h2 h3 hrow hkids hr hc hb
  have HNW := Aside0.mk hnew
  obtain ⟨total, htot⟩ : ∃ t, code1 3 c le mo (codes kids) xs = t := ⟨_, rfl⟩
  rw [htot]
  have htot2 : (codes kids).foldl (fun xs f => f xs) xs = total := by
    rw [← htot]
    unfold code1
    rw [if_neg (by decide), if_neg (by decide), if_neg (by decide), if_pos rfl]
  have HT := Aside0.mk htot2
  obtain ⟨A, hA⟩ : ∃ A, v.b.map (fun g => (⟨g, 0, none⟩ : Addr)) = A := ⟨_, rfl⟩
  have HA := Aside0.mk hA
  obtain ⟨N, hN⟩ : ∃ N, v.n = N := ⟨_, rfl⟩
  have HNN := Aside0.mk hN
  rw [hN] at hn
  have HNK := Aside0.mk hn
  have HOK := Aside0.mk hok
  have HFI := Aside0.mk hfit
  have HSE := Aside0.mk hse
  have HL := Aside0.mk hl
  have HSZ := Aside0.mk hsz
  have HHI := Aside0.mk hIH
  have hN3 : (N : Int) ≤ 9223372036854775807 := by
    rw [hn]
    have hlim : ∀ f : Pt, f.len ≤ f.sz := by
      intro f
      induction f with
      | nil => exact Nat.le_refl _
      | cons k c le mo nu kids rest _ ih => show rest.len + 1 ≤ kids.sz + rest.sz + 1; omega
    have h9 := hrow.2.1
    rcases h9.2 with ⟨_, h9⟩ | ⟨_, cap, _, _, _, _, h8, h9, _⟩
    · rw [hN] at h9; omega
    · unfold maxLen at h9
      rw [hN] at h8
      omega
  clear hnew hp h1 h2 h3 hrow hkids hl hsz hok hfit hse hA hN hn htot htot2 hIH hvc
  go_enter Try.func36, Try.ntmps36
  go_wp2_with ((with_reducible refine gate_box (t := 67) (d := 3) rfl rfl ?_); refine box_pt rfl rfl _ rfl v rfl ?_; intro r3 w1 hg1 hc1 hb1; have HS := Aside0.mk (HNW.out w1 r3 hg1 hc1 hb1); have k0 := hc1.c0; rw [hvk] at k0; have k8 := hc1.c8; rw [HA.out, HNN.out] at k8; clear hg1 hc1 hb1)
  go_loopg [33] kids.len (fun kq v33 w' => ∃ (i : Nat) (f : Pt) (ys : List ST) (b' : Option Nat), v33 = .int .i64 (i : Int) ∧ f.len = kq ∧ i + kq = N ∧ f.sz ≤ kids.sz ∧ f.ok ∧ f.fit ∧ 0 ≤ (sizes f).sum ∧ (sizes f).sum ≤ 300 ∧ ys.length + bnd (sizes f).sum ≤ 1900 ∧ Aside0 ((codes f).foldl (fun xs f => f xs) ys = total) ∧ Aside0 (CD lo pp s z b W w' r3 v ws i f ys b'))
  case atStart => exact ⟨0, kids, xs, b, rfl, rfl, (by have := HNK.out; omega), Nat.le_refl _, HOK.out, HFI.out, HSE.out.2, (by have := HSE.out.1; have := HSZ.out; omega), (by have := HL.out; rw [HSE.out.1] at this; exact this), HT, HS⟩
  case round =>
    clear HS HT k8 HOK HFI HSE HL HSZ k0
    obtain ⟨i, f, ys, b', rfl, hfl, hin, hfz, hfok, hfit, hs0, hs1, hys, HB0, HS⟩ := hrel
    cases f with
    | nil =>
      have hi : i = N := by have : (Pt.nil).len = gk := hfl; unfold Pt.len at this; omega
      have hb : ys = total := HB0.out
      have HBB := Aside0.mk hb
      have d0 : decide ((i : Int) < (N : Int)) = false := decide_eq_false (by omega)
      have d1 : decide (i < N) = false := decide_eq_false (by omega)
      clear hi hfl hin HB0 hb
      go_wp2
      go_end0
      exact ⟨b', rfl, by rw [← HBB.out]; exact HS.out.ps, HS.out.ch⟩
    | cons k' c' le' mo' nu' kids' rest =>
      obtain ⟨u, kb, hi, hkb, hcs, hfu, hnext⟩ := HS.out.next
      have hA2 : A = some ⟨kb, 0, none⟩ := by rw [← HA.out, hkb]; rfl
      obtain ⟨k, rfl⟩ : ∃ k, gk = k + 1 := ⟨gk - 1, by have : rest.len + 1 = gk := hfl; omega⟩
      have hrl : rest.len = k := by have : rest.len + 1 = k + 1 := hfl; omega
      have hszs : kids'.sz < kids.sz ∧ rest.sz ≤ kids.sz := by have : kids'.sz + rest.sz + 1 ≤ kids.sz := hfz; omega
      have hgr := codes_gr (.cons k' c' le' mo' nu' kids' rest) hfok hfit
      obtain ⟨g0, g1, g2⟩ := hgr
      have hr0 := grl_nn g2
      obtain ⟨hk0, hk1, hk2⟩ := hfok
      obtain ⟨hq0, hq1, hq2⟩ := hfit
      have hsum : (sizes (.cons k' c' le' mo' nu' kids' rest)).sum = szOf k' le' mo' nu' (sumP kids' 0) kids'.len + (sizes rest).sum := List.sum_cons
      rw [hsum] at hs0 hs1 hys
      have hcall := HHI.out k' c' le' mo' nu' kids' hszs.1 ⟨hk0, hk1, trivial⟩ ⟨hq0, hq1, trivial⟩ (by omega)
      unfold CodeC at hcall
      dsimp only at hcall
      have hg := g0 (by omega) ys
      obtain ⟨ys2, hys2⟩ : ∃ y, code1 k' c' le' mo' (codes kids') ys = y := ⟨_, rfl⟩
      have hb := HB0.out
      have hb2 : (codes rest).foldl (fun xs f => f xs) ys2 = total := by rw [← hb, ← hys2]; rfl
      rw [hys2] at hg
      obtain ⟨z', hz'⟩ : ∃ y, szOf k' le' mo' nu' (sumP kids' 0) kids'.len = y := ⟨_, rfl⟩
      rw [hz'] at hcall hg hs0 hs1 hys g1
      have hlen2 : ys2.length + bnd (sizes rest).sum ≤ 1900 := by unfold bnd at hg hys ⊢; omega
      have HLN : Aside0 (ys.length + bnd z' ≤ 1900) := ⟨by unfold bnd at hys ⊢; omega⟩
      have hy3 := fun lo pp s z b v W a1 a2 a3 a4 a5 a6 => hcall lo pp s z ys b v W a1 a2 a3 a4 a5 a6
      rw [hys2] at hy3
      have HCALL := Aside0.mk hy3
      have HB1 := Aside0.mk hb2
      have HC := Aside0.mk hcs
      have HFU := Aside0.mk hfu
      have HNX := Aside0.mk hnext
      have hiN : i < N := by omega
      have i0 : (0 : Int) ≤ (i : Int) := by omega
      have i1 : (i : Int) < (N : Int) := by omega
      have d0 : decide ((i : Int) < (N : Int)) = true := decide_eq_true i1
      have d1 : decide (i < N) = true := decide_eq_true hiN
      have w2 : IntKind.i64.wrap ((i : Int) + 1) = (i : Int) + 1 := by rw [IntKind.wrap_i64]; omega
      have hfin : rest.len = k ∧ i + 1 + k = N ∧ rest.sz ≤ kids.sz ∧ rest.ok ∧ rest.fit ∧ 0 ≤ (sizes rest).sum ∧ (sizes rest).sum ≤ 300 := ⟨hrl, by omega, hszs.2, hk2, hq2, hr0, by omega⟩
      have HFIN := Aside0.mk hfin
      have HLE := Aside0.mk hlen2
      clear hb hb2 hcs hfu hnext HB0 hi hk0 hk1 hkb hfl hcall hy3 hys2 hg g0 g1 g2 hr0 hsum hs0 hs1 hys hz' hfin hlen2 hq0 hq1 hq2 hk2 hszs hrl hin hfz
      subst hA2
      go_wp2_with (first
        | (go_at_call 36; (with_reducible refine (HCALL.out lo pp s z b' u _ HS3.out.ps HS3.out.lp HS3.out.lb (Nat.le_trans HS3.out.lw HS3.out.ch.size) HF3.out HLN.out).mono ?_); rintro e w5 ⟨b2, rfl, hp, hc⟩; have HS5 := Aside0.mk (HS3.out.step hp hc); clear hp hc)
        | ((with_reducible refine gate_load (t := 67) (p := 5) rfl ?_); refine load_pt rfl 5 rfl _ rfl u HV3.out ?_)
        | ((with_reducible refine gate_storeT (t := 67) (p := 5) rfl ?_); refine store_pt rfl 5 _ rfl _ rfl PV.nil u rfl HV2.out.1 ?_; intro w4 hc hm; have HV3 := Aside0.mk hc; have HS3 := Aside0.mk (HNX.out.call (hm.below HV2.out.2.1 (by have := HV2.out.2.2; omega) (by have := HV2.out.2.1.size; omega))); have HF3 : Aside0 (FV w4 (fun k => k < lo) (.cons k' c' le' mo' nu' kids' .nil) [u]) := ⟨HFU.out.move fun z _ hz => (hm.below HV2.out.2.1 (by have := HV2.out.2.2; omega) (by have := HV2.out.2.1.size; omega)).block z hz⟩; clear hc hm)
        | ((with_reducible refine gate_alloc (t := 67) (d := 5) rfl rfl ?_); refine alloc_pt rfl rfl rfl ?_; intro r5 w3 hg1 hc1 hb1; have HV2 : Aside0 (VAt w3 r5 67 PV.nil.cells ∧ Below wr.heap.size wr w3 ∧ r5 = wr.heap.size) := ⟨hc1, hb1, hg1⟩; clear hg1 hc1 hb1)
        | ((with_reducible refine gate_load (t := 67) (p := 35) rfl ?_); refine load_ptc rfl 35 rfl kb (i * 9) rfl u HC.out ?_))
      go_roundg k
      case measure => omega
      case rel => exact ⟨i + 1, rest, ys2, b2, rfl, HFIN.out.1, HFIN.out.2.1, HFIN.out.2.2.1, HFIN.out.2.2.2.1, HFIN.out.2.2.2.2.1, HFIN.out.2.2.2.2.2.1, HFIN.out.2.2.2.2.2.2, HLE.out, HB1, HS5⟩
end Go.Proofs.Ytclgnefeankbgaa.M
namespace Go.Proofs.Ytclgnefeankbgaa.M
open Go Go.RowKit Go.Proofs.YtclgnefeankbgaaW.PrintWords Go.Proofs.YtclgnefeankbgaaW.PrintLast Go.Proofs.YtclgnefeankbgaaW.PrintMore Hand
set_option linter.unusedVariables false
set_option linter.unusedSimpArgs false
theorem flatS_setA : ∀ (xs : List ST) (i : Nat) (n : Int), i < xs.length → (flatS xs).set (i * 7 + 5) (.int .i64 n) = flatS (setA xs i n)
  | [], i, n, h => by simp at h
  | x :: xs, 0, n, h => by
    have e : setA (x :: xs) 0 n = { x with a := n } :: xs := rfl
    rw [e]
    unfold flatS
    rw [List.flatMap_cons, List.flatMap_cons, Nat.zero_mul, Nat.zero_add, List.set_append_left _ _ (by show 5 < 7; omega)]
    rfl
  | x :: xs, i + 1, n, h => by
    have e : setA (x :: xs) (i + 1) n = x :: setA xs i n := rfl
    have ih := flatS_setA xs i n (by simpa using h)
    rw [e]
    unfold flatS at ih ⊢
    rw [List.flatMap_cons, List.flatMap_cons, List.set_append_right _ _ (by show 7 ≤ (i + 1) * 7 + 5; omega)]
    have e9 : (i + 1) * 7 + 5 - x.cells.toList.length = i * 7 + 5 := by show (i + 1) * 7 + 5 - 7 = i * 7 + 5; omega
    rw [e9, ih]
theorem flatS_setB : ∀ (xs : List ST) (i : Nat) (n : Int), i < xs.length → (flatS xs).set (i * 7 + 6) (.int .i64 n) = flatS (setB xs i n)
  | [], i, n, h => by simp at h
  | x :: xs, 0, n, h => by
    have e : setB (x :: xs) 0 n = { x with b := n } :: xs := rfl
    rw [e]
    unfold flatS
    rw [List.flatMap_cons, List.flatMap_cons, Nat.zero_mul, Nat.zero_add, List.set_append_left _ _ (by show 6 < 7; omega)]
    rfl
  | x :: xs, i + 1, n, h => by
    have e : setB (x :: xs) (i + 1) n = x :: setB xs i n := rfl
    have ih := flatS_setB xs i n (by simpa using h)
    rw [e]
    unfold flatS at ih ⊢
    rw [List.flatMap_cons, List.flatMap_cons, List.set_append_right _ _ (by show 7 ≤ (i + 1) * 7 + 6; omega)]
    have e9 : (i + 1) * 7 + 6 - x.cells.toList.length = i * 7 + 6 := by show (i + 1) * 7 + 6 - 7 = i * 7 + 6; omega
    rw [e9, ih]
section
variable {W : World} {pp : Nat} {s : ByteArray} {z : Int} {xs : List ST} {b : Option Nat}
/-- A cell of the steps' block changed. -/
theorem PS.poke (h : PS W pp s z xs b) {i j : Nat} (hi : i < xs.length) (hj : j < 7) (u : Value) {ys : List ST} (hl : ys.length = xs.length) (hys : (flatS xs).set (i * 7 + j) u = flatS ys) :
    ∃ sb cap, b = some sb ∧ W.cell? ⟨pp, 2, none⟩ = some (.slice (some ⟨sb, 0, none⟩) xs.length cap) ∧ (∃ o, W.cell? ⟨sb, i * 7 + j, none⟩ = some o) ∧ W.frozen? ⟨sb, i * 7 + j, none⟩ = false ∧ PS (W.setCell ⟨sb, i * 7 + j, none⟩ u) pp s z ys b ∧ Ch pp b W (W.setCell ⟨sb, i * 7 + j, none⟩ u) b := by
  obtain ⟨⟨cap, h1, h2⟩, hne⟩ := h
  rcases h2.2 with ⟨_, h0⟩ | ⟨sb, cap2, cur, hv, hb, hc, hn, hm, hsz, htk⟩
  · omega
  · have hsb := slOf_some hv
    subst hsb
    have hcap : cap = cap2 := by unfold slOf at hv; cases hv; rfl
    subst hcap
    have hlt : i * 7 + j < cur.size := by rw [hsz]; have : (i + 1) * 7 ≤ cap * 7 := Nat.mul_le_mul_right 7 (by omega); omega
    have hnp : sb ≠ pp := fun e => hne (by rw [e])
    have hset : ∀ k, k ≠ sb → (W.setCell ⟨sb, i * 7 + j, none⟩ u).heap[k]? = W.heap[k]? := fun k hk => Below.heap_setCell W ⟨sb, i * 7 + j, none⟩ u k hk
    refine ⟨sb, cap, rfl, (blk_cell h1 2).trans rfl, ⟨cur[i * 7 + j], ?_⟩, blk_frozen hc _, ⟨⟨cap, ?_, ?_⟩, hne⟩, ⟨rfl, rfl, rfl, by simp, fun k _ hp hb => hset k (fun e => hb (by rw [e])), .inl rfl⟩⟩
    · rw [blk_cell hc, Array.getElem?_eq_getElem hlt]
    · rw [hl]; exact (hset pp (Ne.symm hnp)).trans h1
    · refine ⟨by rw [hl, ← hys, List.length_set]; exact h2.1, .inr ⟨sb, cap, cur.set! (i * 7 + j) u, by rw [hl]; rfl, Nat.zero_le _, blk_set hc _ u, by rw [hl]; exact hn, hm, by simp [hsz], ?_⟩⟩
      rw [hl, ← hys, ← htk]
      simp [List.take_set]
theorem PS.pokeA (h : PS W pp s z xs b) {i : Nat} (hi : i < xs.length) (n : Int) : ∃ sb cap, b = some sb ∧ W.cell? ⟨pp, 2, none⟩ = some (.slice (some ⟨sb, 0, none⟩) xs.length cap) ∧ (∃ o, W.cell? ⟨sb, i * 7 + 5, none⟩ = some o) ∧ W.frozen? ⟨sb, i * 7 + 5, none⟩ = false ∧ PS (W.setCell ⟨sb, i * 7 + 5, none⟩ (.int .i64 n)) pp s z (setA xs i n) b ∧ Ch pp b W (W.setCell ⟨sb, i * 7 + 5, none⟩ (.int .i64 n)) b := h.poke hi (by omega) _ (setA_len xs i n) (flatS_setA xs i n hi)
theorem PS.pokeB (h : PS W pp s z xs b) {i : Nat} (hi : i < xs.length) (n : Int) : ∃ sb cap, b = some sb ∧ W.cell? ⟨pp, 2, none⟩ = some (.slice (some ⟨sb, 0, none⟩) xs.length cap) ∧ (∃ o, W.cell? ⟨sb, i * 7 + 6, none⟩ = some o) ∧ W.frozen? ⟨sb, i * 7 + 6, none⟩ = false ∧ PS (W.setCell ⟨sb, i * 7 + 6, none⟩ (.int .i64 n)) pp s z (setB xs i n) b ∧ Ch pp b W (W.setCell ⟨sb, i * 7 + 6, none⟩ (.int .i64 n)) b := h.poke hi (by omega) _ (setB_len xs i n) (flatS_setB xs i n hi)
theorem flatS_take (xs : List ST) (n : Nat) : (flatS xs).take (n * 7) = flatS (xs.take n) := by
  induction xs generalizing n with
  | nil => simp [flatS]
  | cons x xs ih =>
    cases n with
    | zero => simp [flatS]
    | succ n =>
      have := ih n
      unfold flatS at this ⊢
      rw [List.take_succ_cons, List.flatMap_cons, List.flatMap_cons, ← this, List.take_append]
      have e1 : x.cells.toList.length = 7 := rfl
      have e2 : (n + 1) * 7 - 7 = n * 7 := by omega
      rw [e1, e2, List.take_of_length_le (by rw [e1]; omega)]
/-- The steps cut back. -/
theorem PS.cut (h : PS W pp s z xs b) {n : Nat} (hn : n < xs.length) :
    ∃ sb cap, b = some sb ∧ W.cell? ⟨pp, 2, none⟩ = some (.slice (some ⟨sb, 0, none⟩) xs.length cap) ∧ xs.length ≤ cap ∧ W.frozen? ⟨pp, 2, none⟩ = false ∧ PS (W.setCell ⟨pp, 2, none⟩ (.slice (some ⟨sb, 0, none⟩) n cap)) pp s z (xs.take n) b ∧ Ch pp b W (W.setCell ⟨pp, 2, none⟩ (.slice (some ⟨sb, 0, none⟩) n cap)) b := by
  obtain ⟨⟨cap, h1, h2⟩, hne⟩ := h
  rcases h2.2 with ⟨_, h0⟩ | ⟨sb, cap2, cur, hv, hb, hc, hn2, hm, hsz, htk⟩
  · omega
  · have hsb := slOf_some hv
    subst hsb
    have hcap : cap = cap2 := by unfold slOf at hv; cases hv; rfl
    subst hcap
    have hnp : sb ≠ pp := fun e => hne (by rw [e])
    have hset : ∀ k, k ≠ pp → (W.setCell ⟨pp, 2, none⟩ (.slice (some ⟨sb, 0, none⟩) n cap)).heap[k]? = W.heap[k]? := fun k hk => Below.heap_setCell W ⟨pp, 2, none⟩ _ k hk
    have hl : (xs.take n).length = n := by rw [List.length_take]; omega
    refine ⟨sb, cap, rfl, (blk_cell h1 2).trans rfl, hn2, blk_frozen h1 2, ⟨⟨cap, ?_, ?_⟩, hne⟩, ⟨rfl, rfl, rfl, by simp, fun k _ hp _ => hset k hp, .inl rfl⟩⟩
    · rw [hl]; exact (blk_set h1 2 _).trans rfl
    · refine ⟨by rw [flatS_len], .inr ⟨sb, cap, cur, by rw [hl]; rfl, Nat.zero_le _, (hset sb hnp).trans hc, by rw [hl]; omega, hm, hsz, ?_⟩⟩
      rw [hl, ← flatS_take, ← htk, List.take_take]
      congr 1
      have : n * 7 ≤ xs.length * 7 := Nat.mul_le_mul_right 7 (by omega)
      omega
end
end Go.Proofs.Ytclgnefeankbgaa.M
