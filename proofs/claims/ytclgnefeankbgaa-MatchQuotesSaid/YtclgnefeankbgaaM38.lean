/- The set of steps: what a pattern reaches without a byte, as a function; the operations. Conditions: as each theorem says. -/
import Derived.Test.YtclgnefeankbgaaM34
namespace Go.Proofs.Ytclgnefeankbgaa.M
open Go Go.RowKit Go.Proofs.YtclgnefeankbgaaW.PrintWords Go.Proofs.YtclgnefeankbgaaW.PrintLast Go.Proofs.YtclgnefeankbgaaW.PrintMore Hand
attribute [local go_sem] Oper.semAt_some max2_int min2_int max_two min_two max_three min_three max_four min_four
set_option linter.unusedVariables false
set_option linter.unusedSimpArgs false
/-- Steps reached from one, without a byte; whether a match is among them; the set with them. -/
def reachF (xs : List ST) (at_ en : Nat) : Nat → List Bool → Nat → Bool × List Bool
  | 0, c, k => (false, c)
  | n + 1, c, k => match xs[k]? with
    | none => (false, c)
    | some s =>
      if c.getD k false = true then (false, c) else
      if s.op = 1 then (if at_ = 0 then reachF xs at_ en n (c.set k true) (k + 1) else (false, c.set k true)) else
      if s.op = 2 then (if at_ = en then reachF xs at_ en n (c.set k true) (k + 1) else (false, c.set k true)) else
      if s.op = 3 then ((reachF xs at_ en n (reachF xs at_ en n (c.set k true) s.a.toNat).2 s.b.toNat).1 || (reachF xs at_ en n (c.set k true) s.a.toNat).1, (reachF xs at_ en n (reachF xs at_ en n (c.set k true) s.a.toNat).2 s.b.toNat).2) else
      if s.op = 4 then reachF xs at_ en n (c.set k true) s.a.toNat else
      if s.op = 5 then (true, c.set k true) else (false, c.set k true)
def unset (c : List Bool) : Nat := c.count false
theorem unset_set : ∀ (c : List Bool) (k : Nat), c[k]? = some false → unset (c.set k true) + 1 = unset c
  | [], k, h => by simp at h
  | x :: c, 0, h => by
    have : x = false := by simpa using h
    subst this
    unfold unset
    simp
  | x :: c, k + 1, h => by
    have ih := unset_set c k (by simpa using h)
    unfold unset at ih ⊢
    rw [List.set_cons_succ, List.count_cons, List.count_cons]
    omega
theorem unset_set_le (c : List Bool) (k : Nat) : unset (c.set k true) ≤ unset c := by
  cases h : c[k]? with
  | none =>
    rw [List.set_eq_of_length_le (by simpa using h)]
    exact Nat.le_refl _
  | some b =>
    cases b with
    | false => have := unset_set c k h; omega
    | true =>
      have hk := (List.getElem?_eq_some_iff.1 h).1
      have e : c.set k true = c := by
        apply List.ext_getElem?
        intro j
        rw [List.getElem?_set]
        by_cases hj : k = j
        · subst hj
          rw [if_pos rfl, if_pos hk, h]
        · rw [if_neg hj]
      rw [e]
      exact Nat.le_refl _
theorem reachF_unset (xs : List ST) (at_ en : Nat) : ∀ (n : Nat) (c : List Bool) (k : Nat), unset (reachF xs at_ en n c k).2 ≤ unset c ∧ (reachF xs at_ en n c k).2.length = c.length
  | 0, c, k => ⟨Nat.le_refl _, rfl⟩
  | n + 1, c, k => by
    have hs := unset_set_le c k
    have hl : (c.set k true).length = c.length := List.length_set
    have ih := fun k' => reachF_unset xs at_ en n (c.set k true) k'
    rw [reachF]
    split
    · exact ⟨Nat.le_refl _, rfl⟩
    · split
      · exact ⟨Nat.le_refl _, rfl⟩
      · split
        · split
          · have := ih (k + 1); exact ⟨by omega, by omega⟩
          · exact ⟨hs, hl⟩
        · split
          · split
            · have := ih (k + 1); exact ⟨by omega, by omega⟩
            · exact ⟨hs, hl⟩
          · split
            · rename_i s _ _ _ _ _
              have a := ih s.a.toNat
              have b := reachF_unset xs at_ en n (reachF xs at_ en n (c.set k true) s.a.toNat).2 s.b.toNat
              exact ⟨by show unset (reachF xs at_ en n _ _).2 ≤ _; omega, by show (reachF xs at_ en n _ _).2.length = _; omega⟩
            · split
              · rename_i s _ _ _ _ _ _
                have a := ih s.a.toNat; exact ⟨by omega, by omega⟩
              · split
                · exact ⟨hs, hl⟩
                · exact ⟨hs, hl⟩
/-- The steps' places are none below 0, their operations are the six. -/
def Nn (xs : List ST) : Prop := ∀ s ∈ xs, (0 ≤ s.op ∧ s.op ≤ 5) ∧ 0 ≤ s.a ∧ 0 ≤ s.b
def boolsV (c : List Bool) : Array Value := (c.map Value.bool).toArray
def BAt (W : World) (g : Nat) (c : List Bool) : Prop := VAt W g 111 (boolsV c)
theorem boolsV_size (c : List Bool) : (boolsV c).size = c.length := by unfold boolsV; simp
theorem BAt.cell {W : World} {g : Nat} {c : List Bool} (h : BAt W g c) {k : Nat} {b : Bool} (hk : c[k]? = some b) : W.cell? ⟨g, k, none⟩ = some (.bool b) := by
  rw [blk_cell h k]
  unfold boolsV
  simp [hk]
theorem BAt.fz {W : World} {g : Nat} {c : List Bool} (h : BAt W g c) (k : Nat) : W.frozen? ⟨g, k, none⟩ = false := blk_frozen h k
theorem BAt.put {W : World} {g : Nat} {c : List Bool} (h : BAt W g c) (k : Nat) (b : Bool) : BAt (W.setCell ⟨g, k, none⟩ (.bool b)) g (c.set k b) := by
  refine (blk_set h k _).trans ?_
  have e : (boolsV c).setIfInBounds k (.bool b) = boolsV (c.set k b) := by
    unfold boolsV
    simp [List.map_set]
  rw [e]
theorem PS.mv {W W' : World} {pp g : Nat} {s : ByteArray} {z : Int} {xs : List ST} {b : Option Nat} (h : PS W pp s z xs b) (hm : Mv g W W') (h1 : g ≠ pp) (h2 : b ≠ some g) : PS W' pp s z xs b := h.move fun k hk hor => hm.block k hk (fun e => by
  rcases hor with hor | hor
  · exact h1 (e ▸ hor)
  · exact h2 (e ▸ hor))
theorem flatS_get : ∀ (l : List ST) (i j : Nat) (u : ST) (x : Value), l[i]? = some u → u.cells[j]? = some x → (flatS l)[i * 7 + j]? = some x
  | [], i, j, u, x, h, _ => by simp at h
  | a :: l, 0, j, u, x, h, hj => by
    have : a = u := by simpa using h
    subst this
    have hj7 : j < 7 := (Array.getElem?_eq_some_iff.1 hj).1
    unfold flatS
    rw [List.flatMap_cons, Nat.zero_mul, Nat.zero_add, List.getElem?_append_left (by exact hj7), Array.getElem?_toList]
    exact hj
  | a :: l, i + 1, j, u, x, h, hj => by
    have ih := flatS_get l i j u x (by simpa using h) hj
    unfold flatS at ih ⊢
    rw [List.flatMap_cons, List.getElem?_append_right (by show 7 ≤ (i + 1) * 7 + j; omega)]
    have e9 : (i + 1) * 7 + j - a.cells.toList.length = i * 7 + j := by show (i + 1) * 7 + j - 7 = i * 7 + j; omega
    rw [e9]
    exact ih
/-- A step read. -/
theorem PS.at_ {W : World} {pp : Nat} {s : ByteArray} {z : Int} {xs : List ST} {b : Option Nat} (h : PS W pp s z xs b) {i : Nat} {u : ST} (hi : xs[i]? = some u) : ∃ sb cap, b = some sb ∧ W.cell? ⟨pp, 2, none⟩ = some (.slice (some ⟨sb, 0, none⟩) xs.length cap) ∧ ∀ j x, u.cells[j]? = some x → W.cell? ⟨sb, i * 7 + j, none⟩ = some x := by
  obtain ⟨⟨cap, h1, h2⟩, hne⟩ := h
  have hil := (List.getElem?_eq_some_iff.1 hi).1
  rcases h2.2 with ⟨_, h0⟩ | ⟨sb, cap2, cur, hv, hb, hc, hn, hm, hsz, htk⟩
  · omega
  · have hsb := slOf_some hv
    subst hsb
    refine ⟨sb, cap, rfl, (blk_cell h1 2).trans rfl, fun j x hj => ?_⟩
    have := flatS_get xs i j u x hi hj
    rw [← htk, List.getElem?_take] at this
    rw [blk_cell hc]
    split at this
    · rw [Array.getElem?_toList] at this
      exact this
    · cases this
theorem PS.k2 {W : World} {pp : Nat} {s : ByteArray} {z : Int} {xs : List ST} {b : Option Nat} (h : PS W pp s z xs b) : ∃ cap, W.cell? ⟨pp, 2, none⟩ = some (.slice (b.map fun g => ⟨g, 0, none⟩) xs.length cap) := by
  obtain ⟨⟨cap, h1, _⟩, _⟩ := h
  exact ⟨cap, (blk_cell h1 2).trans rfl⟩
theorem stSize (W : World) : (sizeOf 76).run Try.prog W = .ok 7 W := by kernel_rfl
theorem stAgg (W : World) : (isAgg 76).run Try.prog W = .ok true W := by kernel_rfl
theorem load7c {W : World} {g o : Nat} {v : ST} (c : ∀ (j : Nat) (x : Value), v.cells[j]? = some x → W.cell? ⟨g, o + j, none⟩ = some x) : (loadVar 76 ⟨g, o, none⟩).run Try.prog W = .ok (.agg v.cells) W := by
  have c0 := c 0 _ rfl
  have c1 := c 1 _ rfl
  have c2 := c 2 _ rfl
  have c3 := c 3 _ rfl
  have c4 := c 4 _ rfl
  have c5 := c 5 _ rfl
  have c6 := c 6 _ rfl
  simp only [Nat.add_zero] at c0
  simp [loadVar, Sem.run_bind, stAgg W, stSize W, loadCells, c0, c1, c2, c3, c4, c5, c6, go_sem]
  rfl
section
variable {ops : Array Oper} {rest : List Oper} {o : Oper} {a : Act} {Q : Exit → Act → World → Prop} {w : World}
theorem load_stc (hg : o.guard = none) (p : Tmp) (hop : o.op = .load 76 (.tmp p)) (g i : Nat) (hp : a.eval (.tmp p) = .pointer (some ⟨g, i, none⟩)) (v : ST) (h : ∀ (j : Nat) (x : Value), v.cells[j]? = some x → w.cell? ⟨g, i + j, none⟩ = some x) (hK : wpList Try.prog ops Q rest (a.put o.dst (.agg v.cells)) w) : wpList Try.prog ops Q (o :: rest) a w := by
  refine wpList_plain hg fun K' hK' => ?_
  have hl := load7c h
  have hrun : (Instr.loadAt 76 (.pointer (some ⟨g, i, none⟩))).run Try.prog w = .ok (.agg v.cells) w := by
    simp [Instr.loadAt, Sem.run_bind, Instr.sureAddr, hl]
  unfold Oper.wp
  simp [execOp, hop, hp, hrun, Result.andThen]
  exact hK' _ _ hK
theorem store_st (hg : o.guard = none) (p : Tmp) (x : Operand) (hop : o.op = .store 76 (.tmp p) x) (g : Nat) (hp : a.eval (.tmp p) = .pointer (some ⟨g, 0, none⟩)) (z v : ST) (hv : a.eval x = .agg v.cells) (h : VAt w g 76 z.cells) (hK : ∀ w', VAt w' g 76 v.cells → Mv g w w' → wpList Try.prog ops Q rest (a.put o.dst undef) w') : wpList Try.prog ops Q (o :: rest) a w :=
  wpList_store_row hg 76 (.tmp p) x hop g v.cells hp hv 76 z.cells h (by kernel_rfl) rfl (by simp [ST.cells, Value.oneCell']) (hK _ (setRow_heap w g z.cells v.cells 76 (0, 0) h) (setRow_mv w g v.cells))
theorem alloc_st (hg : o.guard = none) {d : Tmp} (hd : o.dst = some d) (hop : o.op = .alloc 76) (hK : ∀ g w', g = w.heap.size → VAt w' g 76 ST.nil.cells → Below w.heap.size w w' → wpList Try.prog ops Q rest (a.put o.dst (.pointer (some ⟨g, 0, none⟩))) w') : wpList Try.prog ops Q (o :: rest) a w := by
  refine box_event hg hd (cs := ST.nil.cells) (t := 76) ?_ (fun g hgs w1 hb hbl => hK g w1 hgs hb hbl)
  have hrun : (Instr.alloc 76 true (.tuple #[])).run Try.prog w = .ok (.pointer (some ⟨w.heap.size, 0, none⟩)) (w.alloc (.cells ST.nil.cells 76)) := by kernel_rfl
  simp [execOp, hop, Result.andThen, hrun]
theorem alloc_set (hg : o.guard = none) {d : Tmp} (hd : o.dst = some d) (hop : o.op = .alloc 111) (hK : ∀ g w', g = w.heap.size → BAt w' g (List.replicate 1204 false) → Below w.heap.size w w' → wpList Try.prog ops Q rest (a.put o.dst (.pointer (some ⟨g, 0, none⟩))) w') : wpList Try.prog ops Q (o :: rest) a w := by
  have hrun : ∀ w : World, (Instr.alloc 111 true (.tuple #[])).run Try.prog w = .ok (.pointer (some ⟨w.heap.size, 0, none⟩)) (w.alloc (.cells (boolsV (List.replicate 1204 false)) 111)) := fun w => by kernel_rfl
  unfold BAt at hK
  generalize boolsV (List.replicate 1204 false) = B at hrun hK
  refine box_event hg hd (cs := B) (t := 111) ?_ (fun g hgs w1 hb hbl => hK g w1 hgs hb hbl)
  simp [execOp, hop, Result.andThen, hrun]
theorem load_set (hg : o.guard = none) (p : Tmp) (hop : o.op = .load 111 (.tmp p)) (g : Nat) (hp : a.eval (.tmp p) = .pointer (some ⟨g, 0, none⟩)) (c : List Bool) (hl : c.length = 1204) (h : BAt w g c) (hK : wpList Try.prog ops Q rest (a.put o.dst (.agg (boolsV c))) w) : wpList Try.prog ops Q (o :: rest) a w :=
  wpList_load_row hg 111 (.tmp p) hop g hp 111 (boolsV c) (0, 0) _ h Try.underlying111 rfl (by rw [boolsV_size, hl]; kernel_rfl) hK
theorem store_set (hg : o.guard = none) (p : Tmp) (x : Operand) (hop : o.op = .store 111 (.tmp p) x) (g : Nat) (hp : a.eval (.tmp p) = .pointer (some ⟨g, 0, none⟩)) (z c : List Bool) (hz : z.length = 1204) (hl : c.length = 1204) (hv : a.eval x = .agg (boolsV c)) (h : BAt w g z) (hK : ∀ w', BAt w' g c → Mv g w w' → wpList Try.prog ops Q rest (a.put o.dst undef) w') : wpList Try.prog ops Q (o :: rest) a w :=
  wpList_store_row hg 111 (.tmp p) x hop g (boolsV c) hp hv 111 (boolsV z) h (by rw [boolsV_size, hl]; kernel_rfl) (by rw [boolsV_size, boolsV_size, hl, hz]) (by unfold boolsV; simp [Value.oneCell']) (hK _ (setRow_heap w g (boolsV z) (boolsV c) 111 (0, 0) h) (setRow_mv w g (boolsV c)))
end
theorem VAt.s0 {w : World} {g : Nat} {v : ST} (h : VAt w g 76 v.cells) : w.cell? ⟨g, 0, none⟩ = some (.int .i64 v.op) := (blk_cell h 0).trans rfl
theorem VAt.s5 {w : World} {g : Nat} {v : ST} (h : VAt w g 76 v.cells) : w.cell? ⟨g, 5, none⟩ = some (.int .i64 v.a) := (blk_cell h 5).trans rfl
theorem VAt.s6 {w : World} {g : Nat} {v : ST} (h : VAt w g 76 v.cells) : w.cell? ⟨g, 6, none⟩ = some (.int .i64 v.b) := (blk_cell h 6).trans rfl
end Go.Proofs.Ytclgnefeankbgaa.M
namespace Go.Proofs.Ytclgnefeankbgaa.M
open Go Go.RowKit Go.Proofs.YtclgnefeankbgaaW.PrintWords Go.Proofs.YtclgnefeankbgaaW.PrintLast Go.Proofs.YtclgnefeankbgaaW.PrintMore Hand
attribute [local go_sem] Oper.semAt_some max2_int min2_int max_two min_two max_three min_three max_four min_four
set_option linter.unusedVariables false
set_option linter.unusedSimpArgs false
/-- What reach has: a pattern, a set, a step's variable. -/
structure RW (pp g : Nat) (s : ByteArray) (z : Int) (xs : List ST) (bk : Option Nat) (W w : World) (c : List Bool) (r : Nat) (u : ST) : Prop where
  ps : PS w pp s z xs bk
  bt : BAt w g c
  mv : Mv g W w
  va : VAt w r 76 u.cells
  rg : r ≠ g
theorem RW.next {pp g : Nat} {s : ByteArray} {z : Int} {xs : List ST} {bk : Option Nat} {W w w' : World} {c c' : List Bool} {r : Nat} {u : ST} (h : RW pp g s z xs bk W w c r u) (hg : g ≠ pp) (hb : bk ≠ some g) (hc : BAt w' g c') (hm : Mv g w w') : RW pp g s z xs bk W w' c' r u :=
  ⟨h.ps.mv hm hg hb, hc, h.mv.trans hm, h.va.mv hm h.rg, h.rg⟩
theorem Mv.new {g r : Nat} {A B C : World} (h : Mv g A B) (k : Mv r B C) (hr : A.heap.size ≤ r) : Mv g A C := ⟨k.os.trans h.os, k.tape.trans h.tape, k.output.trans h.output, Nat.le_trans h.size k.size, fun i hi hg => (k.block i (Nat.lt_of_lt_of_le hi h.size) (by omega)).trans (h.block i hi hg)⟩
/-- .. where a step's variable has been made. -/
structure RV (pp g : Nat) (s : ByteArray) (z : Int) (xs : List ST) (bk : Option Nat) (W w : World) (c : List Bool) (r : Nat) : Prop where
  ps : PS w pp s z xs bk
  bt : BAt w g c
  mv : Mv g W w
  va : VAt w r 76 ST.nil.cells
  rg : r ≠ g
  rp : r ≠ pp
  rb : bk ≠ some r
  rn : W.heap.size ≤ r
theorem RV.of {pp g : Nat} {s : ByteArray} {z : Int} {xs : List ST} {bk : Option Nat} {W w1 w2 : World} {c : List Bool} {r : Nat} (hp : PS w1 pp s z xs bk) (hb : BAt w1 g c) (hm : Mv g W w1) (hr : r = w1.heap.size) (hv : VAt w2 r 76 ST.nil.cells) (hbl : Below w1.heap.size w1 w2) : RV pp g s z xs bk W w2 c r :=
  ⟨hp.call hbl, hb.move hbl, hm.trans (Mv.of_below hbl), hv, (by have := blk_lt hb; omega), (by have := hp.lt; omega), (fun e => by have := hp.blt e; omega), (by have := hm.size; omega)⟩
theorem RV.set {pp g : Nat} {s : ByteArray} {z : Int} {xs : List ST} {bk : Option Nat} {W w w3 : World} {c : List Bool} {r : Nat} {u : ST} (h : RV pp g s z xs bk W w c r) (hc : VAt w3 r 76 u.cells) (hm : Mv r w w3) : RW pp g s z xs bk W w3 c r u :=
  ⟨h.ps.mv hm h.rp h.rb, h.bt.mv hm (Ne.symm h.rg), h.mv.new hm h.rn, hc, h.rg⟩
/-- What a call of reach asks and leaves. -/
def ReachC (pp g : Nat) (s : ByteArray) (z : Int) (xs : List ST) (bk : Option Nat) (at_ en : Nat) (n : Nat) : Prop :=
  ∀ (c : List Bool) (k : Nat) (W : World), PS W pp s z xs bk → BAt W g c → c.length = 1204 → unset c < n →
    Calls Try.prog 56 #[.pointer (some ⟨pp, 0, none⟩), .pointer (some ⟨g, 0, none⟩), .int .i64 (k : Int), .int .i64 (at_ : Int), .int .i64 (en : Int)] W fun e w' => e = .returned (.bool (reachF xs at_ en n c k).1) ∧ BAt w' g (reachF xs at_ en n c k).2 ∧ Mv g W w'
set_option maxHeartbeats 16000000 in
set_option maxRecDepth 100000 in
theorem reach.calls (pp g : Nat) (s : ByteArray) (z : Int) (xs : List ST) (bk : Option Nat) (at_ en : Nat) (hg : g ≠ pp) (hbg : bk ≠ some g) (hlen : xs.length ≤ 1204) (hwf : Nn xs) : ∀ (n : Nat), ReachC pp g s z xs bk at_ en n
  | 0 => fun c k W _ _ _ h => absurd h (Nat.not_lt_zero _)
  | n + 1 => by
    have hIH := reach.calls pp g s z xs bk at_ en hg hbg hlen hwf n
    intro c k W hps hbt hcl hun
    unfold ReachC at hIH
    have HIH := Aside0.mk hIH
    have HG := Aside0.mk hg
    have HBG := Aside0.mk hbg
    obtain ⟨N, hN⟩ : ∃ N, xs.length = N := ⟨_, rfl⟩
    obtain ⟨R, hR⟩ : ∃ R, reachF xs at_ en (n + 1) c k = R := ⟨_, rfl⟩
    rw [hR]
    rw [reachF] at hR
    cases hx : xs[k]? with
    | none =>
      rw [hx] at hR
      simp only at hR
      subst hR
      obtain ⟨cap, k2⟩ := hps.k2
      rw [hN] at k2
      have hNk : N ≤ k := by rw [← hN]; simpa using hx
      have d1 : decide ((N : Int) ≤ (k : Int)) = true := decide_eq_true (by omega)
      have d2 : decide (N ≤ k) = true := decide_eq_true hNk
      have HBT := Aside0.mk hbt
      clear hIH hwf hps hbt hun hx hN hlen hg hbg hcl
      go_enter Try.func56, Try.ntmps56
      go_wp2
      go_ret
      exact ⟨rfl, HBT.out, Mv.refl _ _⟩
    | some u =>
      rw [hx] at hR
      simp only at hR
      have hkN : k < N := by rw [← hN]; exact (List.getElem?_eq_some_iff.1 hx).1
      obtain ⟨sb, cap, hsb, k2, hcells⟩ := hps.at_ hx
      obtain ⟨cb, hcb⟩ : ∃ b, c[k]? = some b := ⟨_, List.getElem?_eq_getElem (by omega)⟩
      have hgd : c.getD k false = cb := by rw [List.getD_eq_getElem?_getD, hcb]; rfl
      have kk := hbt.cell hcb
      have d1 : decide ((N : Int) ≤ (k : Int)) = false := decide_eq_false (by omega)
      have d2 : decide (N ≤ k) = false := decide_eq_false (by omega)
      have d3 : decide ((1204 : Int) ≤ (k : Int)) = false := decide_eq_false (by omega)
      have d4 : decide (1204 ≤ k) = false := decide_eq_false (by omega)
      have q0 : (0 : Int) ≤ (k : Int) := by omega
      have q1 : (k : Int) < 1204 := by omega
      have q2 : k < 1204 := by omega
      have q3 : (k : Int) < (N : Int) := by omega
      have w2 : IntKind.i64.wrap ((k : Int) + 1) = (k : Int) + 1 := by rw [IntKind.wrap_i64]; omega
      have hmem := hwf u (List.mem_of_getElem? hx)
      rw [hN] at k2
      rw [hgd] at hR
      cases cb with
      | true =>
        rw [if_pos rfl] at hR
        subst hR
        have HBT := Aside0.mk hbt
        clear hIH hwf hps hbt hun hx hN hlen hg hbg hcl hcells hmem hgd hcb
        go_enter Try.func56, Try.ntmps56
        go_wp2
        go_ret
        exact ⟨rfl, HBT.out, Mv.refl _ _⟩
      | false =>
        rw [if_neg (by decide)] at hR
        have hun2 := unset_set c k hcb
        obtain ⟨c', hc'⟩ : ∃ y, c.set k true = y := ⟨_, rfl⟩
        have hb1 := hbt.put k true
        rw [hc'] at hb1 hR hun2
        have hcl2 : c'.length = 1204 := by rw [← hc', List.length_set]; exact hcl
        have hm1 : Mv g W (W.setCell ⟨g, k, none⟩ (.bool true)) := (Mv.refl g W).set k _
        have hp1 := hps.mv hm1 hg hbg
        have hglt : g < W.heap.size := blk_lt hbt
        have hcw : ∀ j x, u.cells[j]? = some x → (W.setCell ⟨g, k, none⟩ (.bool true)).cell? ⟨sb, k * 7 + j, none⟩ = some x := fun j x hj => by
          rw [World.cell?_of_block (hm1.block sb (hps.blt hsb) (fun e => hbg (by rw [hsb, e])))]
          exact hcells j x hj
        have f1 := hbt.fz k
        have hun3 : unset c' < n := by omega
        have HIN : Aside0 (PS (W.setCell ⟨g, k, none⟩ (.bool true)) pp s z xs bk ∧ BAt (W.setCell ⟨g, k, none⟩ (.bool true)) g c' ∧ Mv g W (W.setCell ⟨g, k, none⟩ (.bool true))) := ⟨⟨hp1, hb1, hm1⟩⟩
        have hpp2 : (W.setCell ⟨g, k, none⟩ (.bool true)).cell? ⟨pp, 2, none⟩ = some (.slice (some ⟨sb, 0, none⟩) N cap) := by
          rw [World.cell?_of_block (hm1.block pp hps.lt (Ne.symm hg))]
          exact k2
        have HCW := Aside0.mk hcw
        have HCL := Aside0.mk hcl2
        have HUN := Aside0.mk hun3
        have hcall : ∀ (k' : Nat) (w : World), PS w pp s z xs bk → BAt w g c' → Calls Try.prog 56 #[.pointer (some ⟨pp, 0, none⟩), .pointer (some ⟨g, 0, none⟩), .int .i64 (k' : Int), .int .i64 (at_ : Int), .int .i64 (en : Int)] w fun e w' => e = .returned (.bool (reachF xs at_ en n c' k').1) ∧ BAt w' g (reachF xs at_ en n c' k').2 ∧ Mv g w w' := fun k' w h1 h2 => hIH c' k' w h1 h2 hcl2 hun3
        obtain ⟨op, cl, a, b⟩ := u
        obtain ⟨⟨ho0, ho5⟩, ha0, hb0⟩ := hmem
        simp only at ho0 ho5 ha0 hb0
        obtain ⟨a, rfl⟩ : ∃ A : Nat, a = (A : Int) := ⟨a.toNat, by omega⟩
        obtain ⟨b, rfl⟩ : ∃ A : Nat, b = (A : Int) := ⟨b.toNat, by omega⟩
        simp only [Int.toNat_natCast] at hR
        clear hwf hps hbt hun hx hN hlen hcl hcells hgd hcb hun2 hun3 hb1 hm1 hp1 hc' hcl2 hcw
        have H3 : op = 0 ∨ op = 1 ∨ op = 2 ∨ op = 3 ∨ op = 4 ∨ op = 5 := by omega
        clear ho0 ho5 ha0 hb0
        rcases H3 with rfl | rfl | rfl | rfl | rfl | rfl
        · rw [if_neg (by decide), if_neg (by decide), if_neg (by decide), if_neg (by decide), if_neg (by decide)] at hR
          subst hR
          clear hIH hcall hg hbg
          go_enter Try.func56, Try.ntmps56
          go_wp2_with (first
            | ((with_reducible refine gate_storeT (t := 76) (p := 11) rfl ?_); refine store_st rfl 11 _ rfl _ rfl ST.nil ⟨0, cl, (a : Int), (b : Int)⟩ rfl HA.out.va ?_; intro w3 hc hm; have HS := Aside0.mk (HA.out.set hc hm); have s0 := HS.out.va.s0; have s5 := HS.out.va.s5; have s6 := HS.out.va.s6; clear hc hm)
            | ((with_reducible refine gate_alloc (t := 76) (d := 11) rfl rfl ?_); refine alloc_st rfl rfl rfl ?_; intro r w2 hg1 hc1 hb1; have HA := Aside0.mk (RV.of HIN.out.1 HIN.out.2.1 HIN.out.2.2 hg1 hc1 hb1); clear hg1 hc1 hb1)
            | ((with_reducible refine gate_load (t := 76) (p := 40) rfl ?_); refine load_stc rfl 40 rfl sb (k * 7) rfl ⟨0, cl, (a : Int), (b : Int)⟩ HCW.out ?_))
          go_ret
          exact ⟨rfl, HS.out.bt, HS.out.mv⟩
        · rw [if_pos rfl] at hR
          by_cases ca : at_ = 0
          · rw [if_pos ca] at hR
            have e1 : ((at_ : Int) == 0) = true := beq_iff_eq.2 (by omega)
            have e2 : (at_ == 0) = true := beq_iff_eq.2 ca
            have hc1 := hcall (k + 1)
            rw [hR] at hc1
            have ek : ((k + 1 : Nat) : Int) = (k : Int) + 1 := rfl
            rw [ek] at hc1
            have HC1 := Aside0.mk hc1
            have HCA := Aside0.mk ca
            clear hIH hcall hc1 hR hg hbg ca ek
            go_enter Try.func56, Try.ntmps56
            go_wp2_with (first
              | (go_at_call 56; (with_reducible refine (HC1.out _ HS.out.ps HS.out.bt).mono ?_); rintro e w5 ⟨rfl, hb, hm⟩; have HS5 := Aside0.mk (HS.out.next HG.out HBG.out hb hm); clear hb hm)
              | ((with_reducible refine gate_storeT (t := 76) (p := 11) rfl ?_); refine store_st rfl 11 _ rfl _ rfl ST.nil ⟨1, cl, (a : Int), (b : Int)⟩ rfl HA.out.va ?_; intro w3 hc hm; have HS := Aside0.mk (HA.out.set hc hm); have s0 := HS.out.va.s0; have s5 := HS.out.va.s5; have s6 := HS.out.va.s6; clear hc hm)
              | ((with_reducible refine gate_alloc (t := 76) (d := 11) rfl rfl ?_); refine alloc_st rfl rfl rfl ?_; intro r w2 hg1 hc1 hb1; have HA := Aside0.mk (RV.of HIN.out.1 HIN.out.2.1 HIN.out.2.2 hg1 hc1 hb1); clear hg1 hc1 hb1)
              | ((with_reducible refine gate_load (t := 76) (p := 40) rfl ?_); refine load_stc rfl 40 rfl sb (k * 7) rfl ⟨1, cl, (a : Int), (b : Int)⟩ HCW.out ?_))
            go_ret
            exact ⟨rfl, HS5.out.bt, HS5.out.mv⟩
          · rw [if_neg ca] at hR
            subst hR
            have e1 : ((at_ : Int) == 0) = false := beq_eq_false_iff_ne.2 (by omega)
            have e2 : (at_ == 0) = false := beq_eq_false_iff_ne.2 ca
            clear hIH hcall hg hbg ca
            go_enter Try.func56, Try.ntmps56
            go_wp2_with (first
              | ((with_reducible refine gate_storeT (t := 76) (p := 11) rfl ?_); refine store_st rfl 11 _ rfl _ rfl ST.nil ⟨1, cl, (a : Int), (b : Int)⟩ rfl HA.out.va ?_; intro w3 hc hm; have HS := Aside0.mk (HA.out.set hc hm); have s0 := HS.out.va.s0; have s5 := HS.out.va.s5; have s6 := HS.out.va.s6; clear hc hm)
              | ((with_reducible refine gate_alloc (t := 76) (d := 11) rfl rfl ?_); refine alloc_st rfl rfl rfl ?_; intro r w2 hg1 hc1 hb1; have HA := Aside0.mk (RV.of HIN.out.1 HIN.out.2.1 HIN.out.2.2 hg1 hc1 hb1); clear hg1 hc1 hb1)
              | ((with_reducible refine gate_load (t := 76) (p := 40) rfl ?_); refine load_stc rfl 40 rfl sb (k * 7) rfl ⟨1, cl, (a : Int), (b : Int)⟩ HCW.out ?_))
            go_ret
            exact ⟨rfl, HS.out.bt, HS.out.mv⟩
        · rw [if_neg (by decide), if_pos rfl] at hR
          by_cases ca : at_ = en
          · rw [if_pos ca] at hR
            have e1 : ((at_ : Int) == (en : Int)) = true := beq_iff_eq.2 (by omega)
            have e2 : (at_ == en) = true := beq_iff_eq.2 ca
            have hc1 := hcall (k + 1)
            rw [hR] at hc1
            have ek : ((k + 1 : Nat) : Int) = (k : Int) + 1 := rfl
            rw [ek] at hc1
            have HC1 := Aside0.mk hc1
            have HCA := Aside0.mk ca
            clear hIH hcall hc1 hR hg hbg ca ek
            go_enter Try.func56, Try.ntmps56
            go_wp2_with (first
              | (go_at_call 56; (with_reducible refine (HC1.out _ HS.out.ps HS.out.bt).mono ?_); rintro e w5 ⟨rfl, hb, hm⟩; have HS5 := Aside0.mk (HS.out.next HG.out HBG.out hb hm); clear hb hm)
              | ((with_reducible refine gate_storeT (t := 76) (p := 11) rfl ?_); refine store_st rfl 11 _ rfl _ rfl ST.nil ⟨2, cl, (a : Int), (b : Int)⟩ rfl HA.out.va ?_; intro w3 hc hm; have HS := Aside0.mk (HA.out.set hc hm); have s0 := HS.out.va.s0; have s5 := HS.out.va.s5; have s6 := HS.out.va.s6; clear hc hm)
              | ((with_reducible refine gate_alloc (t := 76) (d := 11) rfl rfl ?_); refine alloc_st rfl rfl rfl ?_; intro r w2 hg1 hc1 hb1; have HA := Aside0.mk (RV.of HIN.out.1 HIN.out.2.1 HIN.out.2.2 hg1 hc1 hb1); clear hg1 hc1 hb1)
              | ((with_reducible refine gate_load (t := 76) (p := 40) rfl ?_); refine load_stc rfl 40 rfl sb (k * 7) rfl ⟨2, cl, (a : Int), (b : Int)⟩ HCW.out ?_))
            go_ret
            exact ⟨rfl, HS5.out.bt, HS5.out.mv⟩
          · rw [if_neg ca] at hR
            subst hR
            have e1 : ((at_ : Int) == (en : Int)) = false := beq_eq_false_iff_ne.2 (by omega)
            have e2 : (at_ == en) = false := beq_eq_false_iff_ne.2 ca
            clear hIH hcall hg hbg ca
            go_enter Try.func56, Try.ntmps56
            go_wp2_with (first
              | ((with_reducible refine gate_storeT (t := 76) (p := 11) rfl ?_); refine store_st rfl 11 _ rfl _ rfl ST.nil ⟨2, cl, (a : Int), (b : Int)⟩ rfl HA.out.va ?_; intro w3 hc hm; have HS := Aside0.mk (HA.out.set hc hm); have s0 := HS.out.va.s0; have s5 := HS.out.va.s5; have s6 := HS.out.va.s6; clear hc hm)
              | ((with_reducible refine gate_alloc (t := 76) (d := 11) rfl rfl ?_); refine alloc_st rfl rfl rfl ?_; intro r w2 hg1 hc1 hb1; have HA := Aside0.mk (RV.of HIN.out.1 HIN.out.2.1 HIN.out.2.2 hg1 hc1 hb1); clear hg1 hc1 hb1)
              | ((with_reducible refine gate_load (t := 76) (p := 40) rfl ?_); refine load_stc rfl 40 rfl sb (k * 7) rfl ⟨2, cl, (a : Int), (b : Int)⟩ HCW.out ?_))
            go_ret
            exact ⟨rfl, HS.out.bt, HS.out.mv⟩
        · rw [if_neg (by decide), if_neg (by decide), if_pos rfl] at hR
          obtain ⟨R1, hR1⟩ : ∃ R1, reachF xs at_ en n c' a = R1 := ⟨_, rfl⟩
          have hc1 := hcall a
          rw [hR1] at hR hc1
          obtain ⟨R2, hR2⟩ : ∃ R2, reachF xs at_ en n R1.2 b = R2 := ⟨_, rfl⟩
          have hle := reachF_unset xs at_ en n c' a
          rw [hR1] at hle
          have hc2 : ∀ (w : World), PS w pp s z xs bk → BAt w g R1.2 → Calls Try.prog 56 #[.pointer (some ⟨pp, 0, none⟩), .pointer (some ⟨g, 0, none⟩), .int .i64 (b : Int), .int .i64 (at_ : Int), .int .i64 (en : Int)] w fun e w' => e = .returned (.bool R2.1) ∧ BAt w' g R2.2 ∧ Mv g w w' := fun w h1 h2 => by
            have := hIH R1.2 b w h1 h2 (by have := HCL.out; omega) (by have := HUN.out; omega)
            rw [hR2] at this
            exact this
          rw [hR2] at hR
          obtain ⟨x1, c1⟩ := R1
          obtain ⟨x2, c2⟩ := R2
          simp only at hR hc1 hc2
          have HC1 := Aside0.mk hc1
          have HC2 := Aside0.mk hc2
          subst hR
          clear hIH hcall hc1 hc2 hg hbg hle hR1 hR2
          cases x2 with
          | true =>
            go_enter Try.func56, Try.ntmps56
            go_wp2_with (first
              | (go_at_call 56; (with_reducible refine (HC2.out _ HS5.out.ps HS5.out.bt).mono ?_); rintro e w6 ⟨rfl, hb, hm⟩; have HS6 := Aside0.mk (HS5.out.next HG.out HBG.out hb hm); clear hb hm)
              | (go_at_call 56; (with_reducible refine (HC1.out _ HS.out.ps HS.out.bt).mono ?_); rintro e w5 ⟨rfl, hb, hm⟩; have HS5 := Aside0.mk (HS.out.next HG.out HBG.out hb hm); have s65 := HS5.out.va.s6; clear hb hm)
              | ((with_reducible refine gate_storeT (t := 76) (p := 11) rfl ?_); refine store_st rfl 11 _ rfl _ rfl ST.nil ⟨3, cl, (a : Int), (b : Int)⟩ rfl HA.out.va ?_; intro w3 hc hm; have HS := Aside0.mk (HA.out.set hc hm); have s0 := HS.out.va.s0; have s5 := HS.out.va.s5; have s6 := HS.out.va.s6; clear hc hm)
              | ((with_reducible refine gate_alloc (t := 76) (d := 11) rfl rfl ?_); refine alloc_st rfl rfl rfl ?_; intro r w2 hg1 hc1 hb1; have HA := Aside0.mk (RV.of HIN.out.1 HIN.out.2.1 HIN.out.2.2 hg1 hc1 hb1); clear hg1 hc1 hb1)
              | ((with_reducible refine gate_load (t := 76) (p := 40) rfl ?_); refine load_stc rfl 40 rfl sb (k * 7) rfl ⟨3, cl, (a : Int), (b : Int)⟩ HCW.out ?_))
            go_ret
            exact ⟨rfl, HS6.out.bt, HS6.out.mv⟩
          | false =>
            go_enter Try.func56, Try.ntmps56
            go_wp2_with (first
              | (go_at_call 56; (with_reducible refine (HC2.out _ HS5.out.ps HS5.out.bt).mono ?_); rintro e w6 ⟨rfl, hb, hm⟩; have HS6 := Aside0.mk (HS5.out.next HG.out HBG.out hb hm); clear hb hm)
              | (go_at_call 56; (with_reducible refine (HC1.out _ HS.out.ps HS.out.bt).mono ?_); rintro e w5 ⟨rfl, hb, hm⟩; have HS5 := Aside0.mk (HS.out.next HG.out HBG.out hb hm); have s65 := HS5.out.va.s6; clear hb hm)
              | ((with_reducible refine gate_storeT (t := 76) (p := 11) rfl ?_); refine store_st rfl 11 _ rfl _ rfl ST.nil ⟨3, cl, (a : Int), (b : Int)⟩ rfl HA.out.va ?_; intro w3 hc hm; have HS := Aside0.mk (HA.out.set hc hm); have s0 := HS.out.va.s0; have s5 := HS.out.va.s5; have s6 := HS.out.va.s6; clear hc hm)
              | ((with_reducible refine gate_alloc (t := 76) (d := 11) rfl rfl ?_); refine alloc_st rfl rfl rfl ?_; intro r w2 hg1 hc1 hb1; have HA := Aside0.mk (RV.of HIN.out.1 HIN.out.2.1 HIN.out.2.2 hg1 hc1 hb1); clear hg1 hc1 hb1)
              | ((with_reducible refine gate_load (t := 76) (p := 40) rfl ?_); refine load_stc rfl 40 rfl sb (k * 7) rfl ⟨3, cl, (a : Int), (b : Int)⟩ HCW.out ?_))
            go_ret
            exact ⟨rfl, HS6.out.bt, HS6.out.mv⟩
        · rw [if_neg (by decide), if_neg (by decide), if_neg (by decide), if_pos rfl] at hR
          have hc1 := hcall a
          rw [hR] at hc1
          have HC1 := Aside0.mk hc1
          clear hIH hcall hc1 hR hg hbg
          go_enter Try.func56, Try.ntmps56
          go_wp2_with (first
            | (go_at_call 56; (with_reducible refine (HC1.out _ HS.out.ps HS.out.bt).mono ?_); rintro e w5 ⟨rfl, hb, hm⟩; have HS5 := Aside0.mk (HS.out.next HG.out HBG.out hb hm); clear hb hm)
            | ((with_reducible refine gate_storeT (t := 76) (p := 11) rfl ?_); refine store_st rfl 11 _ rfl _ rfl ST.nil ⟨4, cl, (a : Int), (b : Int)⟩ rfl HA.out.va ?_; intro w3 hc hm; have HS := Aside0.mk (HA.out.set hc hm); have s0 := HS.out.va.s0; have s5 := HS.out.va.s5; have s6 := HS.out.va.s6; clear hc hm)
            | ((with_reducible refine gate_alloc (t := 76) (d := 11) rfl rfl ?_); refine alloc_st rfl rfl rfl ?_; intro r w2 hg1 hc1 hb1; have HA := Aside0.mk (RV.of HIN.out.1 HIN.out.2.1 HIN.out.2.2 hg1 hc1 hb1); clear hg1 hc1 hb1)
            | ((with_reducible refine gate_load (t := 76) (p := 40) rfl ?_); refine load_stc rfl 40 rfl sb (k * 7) rfl ⟨4, cl, (a : Int), (b : Int)⟩ HCW.out ?_))
          go_ret
          exact ⟨rfl, HS5.out.bt, HS5.out.mv⟩
        · rw [if_neg (by decide), if_neg (by decide), if_neg (by decide), if_neg (by decide), if_pos rfl] at hR
          subst hR
          clear hIH hcall hg hbg
          go_enter Try.func56, Try.ntmps56
          go_wp2_with (first
            | ((with_reducible refine gate_storeT (t := 76) (p := 11) rfl ?_); refine store_st rfl 11 _ rfl _ rfl ST.nil ⟨5, cl, (a : Int), (b : Int)⟩ rfl HA.out.va ?_; intro w3 hc hm; have HS := Aside0.mk (HA.out.set hc hm); have s0 := HS.out.va.s0; have s5 := HS.out.va.s5; have s6 := HS.out.va.s6; clear hc hm)
            | ((with_reducible refine gate_alloc (t := 76) (d := 11) rfl rfl ?_); refine alloc_st rfl rfl rfl ?_; intro r w2 hg1 hc1 hb1; have HA := Aside0.mk (RV.of HIN.out.1 HIN.out.2.1 HIN.out.2.2 hg1 hc1 hb1); clear hg1 hc1 hb1)
            | ((with_reducible refine gate_load (t := 76) (p := 40) rfl ?_); refine load_stc rfl 40 rfl sb (k * 7) rfl ⟨5, cl, (a : Int), (b : Int)⟩ HCW.out ?_))
          go_ret
          exact ⟨rfl, HS.out.bt, HS.out.mv⟩
end Go.Proofs.Ytclgnefeankbgaa.M
namespace Go.Proofs.Ytclgnefeankbgaa.M
open Go Go.RowKit Go.Proofs.YtclgnefeankbgaaW.PrintWords Go.Proofs.YtclgnefeankbgaaW.PrintLast Go.Proofs.YtclgnefeankbgaaW.PrintMore Hand
set_option linter.unusedVariables false
set_option linter.unusedSimpArgs false
def set0 : List Bool := List.replicate 1204 false
/-- A byte taken by all steps of a set: whether one took it, whether a match is reached, the next set. -/
def sweepF (xs : List ST) (x : Int) (at1 en : Nat) (now : List Bool) : List ST → Nat → Bool → Bool → List Bool → Bool × Bool × List Bool
  | [], k, so, is, nx => (so, is, nx)
  | u :: ys, k, so, is, nx =>
    if now.getD k false = true ∧ u.op = 0 ∧ hasC u.c x = true then sweepF xs x at1 en now ys (k + 1) true (is || (reachF xs at1 en 1205 nx (k + 1)).1) (reachF xs at1 en 1205 nx (k + 1)).2
    else sweepF xs x at1 en now ys (k + 1) so is nx
def endsF (xs : List ST) (bs : List Int) : Nat → Nat → List Bool → List Int → List Int
  | 0, at_, now, out => out
  | n + 1, at_, now, out =>
    if (sweepF xs (bs.getD at_ 0) (at_ + 1) bs.length now xs 0 false false set0).1 = true then
      endsF xs bs n (at_ + 1) (sweepF xs (bs.getD at_ 0) (at_ + 1) bs.length now xs 0 false false set0).2.2 (if (sweepF xs (bs.getD at_ 0) (at_ + 1) bs.length now xs 0 false false set0).2.1 = true then out ++ [(at_ : Int) + 1] else out)
    else out
def endsP (xs : List ST) (bs : List Int) (from_ : Nat) : List Int :=
  endsF xs bs (bs.length - from_) from_ (reachF xs from_ bs.length 1205 set0 0).2 (if (reachF xs from_ bs.length 1205 set0 0).1 = true then [(from_ : Int)] else [])
theorem set0_len : set0.length = 1204 := List.length_replicate
theorem unset_le (c : List Bool) : unset c ≤ c.length := List.count_le_length
theorem endsF_in (xs : List ST) (bs : List Int) (a : Nat) : ∀ (n at_ : Nat) (now : List Bool) (out : List Int), n + at_ ≤ bs.length → a ≤ at_ → (∀ e ∈ out, (a : Int) ≤ e ∧ e ≤ bs.length) → ∀ e ∈ endsF xs bs n at_ now out, (a : Int) ≤ e ∧ e ≤ bs.length
  | 0, at_, now, out, hn, ha, ho => ho
  | n + 1, at_, now, out, hn, ha, ho => by
    rw [endsF]
    split
    · refine endsF_in xs bs a n (at_ + 1) _ _ (by omega) (by omega) ?_
      split
      · intro e he
        rcases List.mem_append.1 he with he | he
        · exact ho e he
        · have : e = (at_ : Int) + 1 := by simpa using he
          omega
      · exact ho
    · exact ho
theorem endsP_in (xs : List ST) (bs : List Int) (from_ : Nat) (h : from_ ≤ bs.length) : ∀ e ∈ endsP xs bs from_, (from_ : Int) ≤ e ∧ e ≤ bs.length := by
  unfold endsP
  refine endsF_in xs bs from_ _ from_ _ _ (by omega) (Nat.le_refl _) ?_
  split
  · intro e he
    have : e = (from_ : Int) := by simpa using he
    omega
  · intro e he
    cases he
theorem byteC {w : World} {A : Option Addr} {bs : List Int} (h : Kd.C (Kd.int .u8) w A bs.length bs) {i : Nat} (hi : i < bs.length) : ∃ ad, A = some ad ∧ w.cell? (ad.add i) = some (.int .u8 (bs.getD i 0)) := by
  obtain ⟨ad, c, h1, h2, h3, h4⟩ := Kd.C_get h 0 (i : Int) (by omega) (by omega)
  have h3' : c = [.int .u8 (bs.getD i 0)] := h3
  subst h3'
  have := h4 0 _ rfl
  have e : (i : Int).toNat * (Kd.int .u8).sz + 0 = i := by show i * 1 + 0 = i; omega
  rw [e] at this
  exact ⟨ad, h1, this⟩
/-- What ends has: a pattern, bytes, a set, a row of numbers. -/
structure EW (W w : World) (pp : Nat) (s : ByteArray) (z : Int) (xs : List ST) (bk : Option Nat) (A : Option Addr) (bs : List Int) (g : Nat) (now : List Bool) (vo : Value) (out : List Int) : Prop where
  ps : PS w pp s z xs bk
  bt : BAt w g now
  hb : Below W.heap.size W w
  gn : W.heap.size ≤ g
  row : Kd.R (Kd.int .i64) 3 w W.heap.size (fun _ => True) vo out
  C : Kd.C (Kd.int .u8) W A bs.length bs
  pl : pp < W.heap.size
  bl : ∀ k, bk = some k → k < W.heap.size
section
variable {W w w' : World} {pp : Nat} {s : ByteArray} {z : Int} {xs : List ST} {bk : Option Nat} {A : Option Addr} {bs : List Int} {g h : Nat} {now nx c : List Bool} {vo v1 : Value} {out out1 : List Int}
theorem EW.byte (E : EW W w pp s z xs bk A bs g now vo out) {i : Nat} (hi : i < bs.length) : ∃ ad, A = some ad ∧ w.cell? (ad.add i) = some (.int .u8 (bs.getD i 0)) := byteC (Kd.C_below E.C E.hb) hi
theorem EW.call (E : EW W w pp s z xs bk A bs g now vo out) (hb : Below w.heap.size w w') : EW W w' pp s z xs bk A bs g now vo out :=
  ⟨E.ps.call hb, E.bt.move hb, E.hb.trans (hb.mono E.hb.size), E.gn, Kd.R_below E.row hb, E.C, E.pl, E.bl⟩
theorem EW.gp (E : EW W w pp s z xs bk A bs g now vo out) : g ≠ pp ∧ bk ≠ some g := ⟨by have := E.gn; have := E.pl; omega, fun e => by have := E.bl g e; have := E.gn; omega⟩
theorem row_mv (hr : Kd.R (Kd.int .i64) 3 w W.heap.size (fun _ => True) vo out) (hb : BAt w h c) (hm : Mv h w w') : Kd.R (Kd.int .i64) 3 w' W.heap.size (fun _ => True) vo out :=
  Kd.R_mono (Kd.R_step (Kd.R_types hr hb (fun q hq => by
    have : q = 3 := by simpa [Kd.int, Kd.scalar] using hq
    rw [this]
    decide)) fun k hk hlt => hm.block k hlt hk.2) fun _ _ => trivial
/-- Another set changes. -/
theorem EW.mv (E : EW W w pp s z xs bk A bs g now vo out) (hb : BAt w h c) (hm : Mv h w w') (hn : W.heap.size ≤ h) (hg : h ≠ g) : EW W w' pp s z xs bk A bs g now vo out := by
  have hpl := E.pl
  exact ⟨E.ps.mv hm (by omega) (fun e => by have := E.bl h e; omega), E.bt.mv hm (Ne.symm hg), hm.below E.hb hn E.hb.size, E.gn, row_mv E.row hb hm, E.C, E.pl, E.bl⟩
/-- The set changes. -/
theorem EW.set (E : EW W w pp s z xs bk A bs g now vo out) (hc : BAt w' g c) (hm : Mv g w w') : EW W w' pp s z xs bk A bs g c vo out :=
  ⟨E.ps.mv hm E.gp.1 E.gp.2, hc, hm.below E.hb E.gn E.hb.size, E.gn, row_mv E.row E.bt hm, E.C, E.pl, E.bl⟩
/-- A number appended. -/
theorem EW.app (E : EW W w pp s z xs bk A bs g now vo out) (hr : Kd.R (Kd.int .i64) 3 w' W.heap.size (fun _ => True) v1 out1) (hb : Below W.heap.size W w') (hg : w.grownBy w' vo.ownBlock) : EW W w' pp s z xs bk A bs g now v1 out1 := by
  have hne := Kd.R_ne E.row E.bt (by decide)
  refine ⟨E.ps.move fun k _ hor => ?_, (hg.block g (blk_lt E.bt) hne).trans E.bt, hb, E.gn, hr, E.C, E.pl, E.bl⟩
  have hk : k < W.heap.size := by
    rcases hor with hor | hor
    · rw [hor]; exact E.pl
    · exact E.bl k hor
  exact (hb.block k hk).trans (E.hb.block k hk).symm
theorem EW.far (E : EW W w pp s z xs bk A bs g now vo out) (hc : BAt w h c) (hg : w.grownBy w' vo.ownBlock) : BAt w' h c :=
  (hg.block h (blk_lt hc) (Kd.R_ne E.row hc (by decide))).trans hc
end
theorem VAt.s1 {w : World} {g : Nat} {v : ST} (h : VAt w g 76 v.cells) : w.cell? ⟨g, 1, none⟩ = some (.int .u64 v.c.a) := (blk_cell h 1).trans rfl
theorem VAt.s2 {w : World} {g : Nat} {v : ST} (h : VAt w g 76 v.cells) : w.cell? ⟨g, 2, none⟩ = some (.int .u64 v.c.b) := (blk_cell h 2).trans rfl
theorem VAt.s3 {w : World} {g : Nat} {v : ST} (h : VAt w g 76 v.cells) : w.cell? ⟨g, 3, none⟩ = some (.int .u64 v.c.c) := (blk_cell h 3).trans rfl
theorem VAt.s4 {w : World} {g : Nat} {v : ST} (h : VAt w g 76 v.cells) : w.cell? ⟨g, 4, none⟩ = some (.int .u64 v.c.d) := (blk_cell h 4).trans rfl
theorem BAt.move {W W' : World} {g : Nat} {c : List Bool} (hb : Below W.heap.size W W') (h : BAt W g c) : BAt W' g c := VAt.move h hb
theorem below_drewN (w : World) (n : Nat) : Below w.heap.size w (w.drewN n) := ⟨rfl, rfl, rfl, Nat.le_refl _, fun _ _ => rfl⟩
end Go.Proofs.Ytclgnefeankbgaa.M
