/- A pattern's steps; a step put behind the others. Conditions: as each theorem says. -/
import Derived.Test.YtclgnefeankbgaaM15
namespace Go.Proofs.Ytclgnefeankbgaa.M
open Go Go.RowKit Go.Proofs.YtclgnefeankbgaaW.PrintWords Go.Proofs.YtclgnefeankbgaaW.PrintLast Go.Proofs.YtclgnefeankbgaaW.PrintMore Hand
attribute [local go_sem] Oper.semAt_some max2_int min2_int max_two min_two max_three min_three max_four min_four
set_option linter.unusedVariables false
set_option linter.unusedSimpArgs false
structure ST where
  op : Int
  c : C4
  a : Int
  b : Int
def ST.cells (v : ST) : Array Value := #[.int .i64 v.op, .int .u64 v.c.a, .int .u64 v.c.b, .int .u64 v.c.c, .int .u64 v.c.d, .int .i64 v.a, .int .i64 v.b]
def ST.nil : ST := ⟨0, C4.nil, 0, 0⟩
def flatS (ws : List ST) : List Value := ws.flatMap fun v => v.cells.toList
theorem flatS_len : ∀ ws : List ST, (flatS ws).length = ws.length * 7
  | [] => rfl
  | v :: ws => by
    have := flatS_len ws
    unfold flatS at this ⊢
    rw [List.flatMap_cons, List.length_append, this, List.length_cons]
    have : v.cells.toList.length = 7 := rfl
    omega
/-- A pattern at block pp: its text, its size, its steps in block b. -/
structure PS (W : World) (pp : Nat) (s : ByteArray) (z : Int) (xs : List ST) (b : Option Nat) : Prop where
  ex : ∃ cap, W.heap[pp]? = some (.cells #[.string s, .int .i64 z, slOf b xs.length cap] 72 (0, 0)) ∧ W.ownsRow 0 76 7 (slOf b xs.length cap) xs.length (flatS xs)
  ne : b ≠ some pp
/-- No block but pp, the steps' own and new ones has changed. -/
structure Ch (pp : Nat) (b : Option Nat) (W w' : World) (b' : Option Nat) : Prop where
  os : w'.os = W.os
  tape : w'.tape = W.tape
  output : w'.output = W.output
  size : W.heap.size ≤ w'.heap.size
  block : ∀ k, k < W.heap.size → k ≠ pp → b ≠ some k → w'.heap[k]? = W.heap[k]?
  own : b' = b ∨ ∀ k, b' = some k → W.heap.size ≤ k
theorem Ch.refl (pp : Nat) (b : Option Nat) (W : World) : Ch pp b W W b := ⟨rfl, rfl, rfl, Nat.le_refl _, fun _ _ _ _ => rfl, .inl rfl⟩
theorem Ch.trans {pp : Nat} {b b1 b2 : Option Nat} {A B C : World} (h : Ch pp b A B b1) (k : Ch pp b1 B C b2) : Ch pp b A C b2 := by
  refine ⟨k.os.trans h.os, k.tape.trans h.tape, k.output.trans h.output, Nat.le_trans h.size k.size, fun i hi hp hb => ?_, ?_⟩
  · refine (k.block i (Nat.lt_of_lt_of_le hi h.size) hp (fun e => ?_)).trans (h.block i hi hp hb)
    rcases h.own with ho | ho
    · exact hb (ho ▸ e)
    · have := ho i e; omega
  · rcases k.own with ko | ko
    · rw [ko]; exact h.own
    · exact .inr fun i hi => Nat.le_trans h.size (ko i hi)
theorem Ch.of_below {pp : Nat} {b : Option Nat} {A B : World} (h : Below A.heap.size A B) : Ch pp b A B b := ⟨h.os, h.tape, h.output, h.size, fun k hk _ _ => h.block k hk, .inl rfl⟩
theorem PS.lt {W : World} {pp : Nat} {s : ByteArray} {z : Int} {xs : List ST} {b : Option Nat} (h : PS W pp s z xs b) : pp < W.heap.size := by
  obtain ⟨⟨cap, h1, _⟩, _⟩ := h
  exact blk_lt h1
theorem PS.blt {W : World} {pp : Nat} {s : ByteArray} {z : Int} {xs : List ST} {b : Option Nat} (h : PS W pp s z xs b) {k : Nat} (hb : b = some k) : k < W.heap.size := by
  obtain ⟨⟨cap, _, h2⟩, _⟩ := h
  rcases h2.2 with ⟨hv, _⟩ | ⟨g, c2, cur, hv, _, hc, _⟩
  · rw [hb] at hv; unfold slOf at hv; cases hv
  · have := slOf_some hv
    rw [hb] at this
    cases this
    exact (Array.getElem?_eq_some_iff.1 hc).1
theorem PS.move {W W' : World} {pp : Nat} {s : ByteArray} {z : Int} {xs : List ST} {b : Option Nat} (h : PS W pp s z xs b) (hm : ∀ k, k < W.heap.size → (k = pp ∨ b = some k) → W'.heap[k]? = W.heap[k]?) : PS W' pp s z xs b := by
  have hl := h.lt
  have hbl := fun k hk => h.blt (k := k) hk
  obtain ⟨⟨cap, h1, h2⟩, hne⟩ := h
  refine ⟨⟨cap, (hm pp hl (.inl rfl)).trans h1, h2.1, ?_⟩, hne⟩
  rcases h2.2 with hv | ⟨g, c2, cur, hv, hb, hc, hr⟩
  · exact .inl hv
  · have hg := slOf_some hv
    exact .inr ⟨g, c2, cur, hv, hb, (hm g (hbl g hg) (.inr hg)).trans hc, hr⟩
theorem PS.call {W W' : World} {pp : Nat} {s : ByteArray} {z : Int} {xs : List ST} {b : Option Nat} (h : PS W pp s z xs b) (hb : Below W.heap.size W W') : PS W' pp s z xs b := h.move fun k hk _ => hb.block k hk
theorem st_info : (Try.prog.info? 76).map (fun i => (i.zero, i.size, i.bytes)) = some (some (.agg ST.nil.cells), 7, 56) := by kernel_rfl
theorem st_parts : ∃ i, Try.prog.info? 76 = some i ∧ i.zero = some (.agg ST.nil.cells) ∧ i.size = 7 ∧ i.bytes = 56 := by
  obtain ⟨i, hi, he⟩ := Option.map_eq_some_iff.1 st_info
  have h0 := congrArg Prod.fst he
  have h1 := congrArg Prod.snd he
  exact ⟨i, hi, h0, congrArg Prod.fst h1, congrArg Prod.snd h1⟩
theorem step_append_st {ops : Array Oper} {o : Oper} {a : Act} {w : World} {K : Act → World → Prop} {Q : Exit → Act → World → Prop} {E : Prop} (hg : o.guard = none) (s x : Operand)
    (ho : o.op = .call { callee := .builtin .append, args := #[s, x], argTypes := #[70, 70] }) (v : Value) (n : Nat) (xs : List Value) (hs : a.eval s = v) (hown : w.ownsRow 0 76 7 v n xs)
    (ad : Addr) (news : List Value) (hx : a.eval x = .slice (some ad) 1 1) (hl : news.length = 7) (hnews : ∀ j u, news[j]? = some u → w.cell? (ad.add j) = some u) (h1 : ∀ u ∈ news, u.oneCell' = true) (hn : n ≤ 2000)
    (h : ∀ v' w', w'.ownsRow 0 76 7 v' (n + 1) (xs ++ news) → w.grownBy w' v.ownBlock → (v'.ownBlock = v.ownBlock ∨ v'.ownBlock = some w.heap.size) → K (a.put o.dst v') w') : if Region.wanted o (yielded ops a.tmps) = true then Oper.wp Try.prog o a w K Q else E := by
  have hw : Region.wanted o (yielded ops a.tmps) = true := by simp [Region.wanted, hg]
  rw [if_pos hw]
  obtain ⟨i, hi, hz, hsz, hby⟩ := st_parts
  obtain ⟨v', w', hr, h2, h3, h4, h5⟩ := run_append_own_at (P := Try.prog) w 0 70 o.type 76 i (.agg ST.nil.cells) 7 56 Try.underlying70 hi hz hsz hby rfl (by decide) v n xs hown ad 1 1 news hl hnews h1 (by unfold maxLen; omega) (by omega) (Nat.zero_le _)
  unfold Oper.wp
  simp [execOp, ho, resolve, invoke, builtin, hs, hx, hr, Result.andThen]
  exact h v' w' h2 h3 h5
theorem one7 (v : ST) : ∀ u ∈ v.cells.toList, u.oneCell' = true := by
  intro u hu
  simp [ST.cells] at hu
  rcases hu with rfl | rfl | rfl | rfl | rfl | rfl | rfl <;> rfl
theorem own_st {W : World} {base n : Nat} {x : Value} {xs : List Value} (h : W.ownsRow base 76 7 x n xs) : ∃ b cap, x = slOf b n cap := by
  rcases h.2 with ⟨hv, h0⟩ | ⟨g, cap, cur, hv, _⟩
  · exact ⟨none, 0, by rw [hv, h0]; rfl⟩
  · exact ⟨some g, cap, hv⟩
section
variable {ops : Array Oper} {rest : List Oper} {o : Oper} {a : Act} {Q : Exit → Act → World → Prop} {w : World}
theorem box_st (hg : o.guard = none) {d : Tmp} (hd : o.dst = some d) (x : Operand) (hop : o.op = .box 76 x) (v : ST) (hx : a.eval x = .agg v.cells) (hK : ∀ g w', g = w.heap.size → VAt w' g 76 v.cells → Below w.heap.size w w' → wpList Try.prog ops Q rest (a.put o.dst (.pointer (some ⟨g, 0, none⟩))) w') : wpList Try.prog ops Q (o :: rest) a w := by
  refine box_event hg hd (cs := v.cells) (t := 76) ?_ (fun g hgs w1 hb hbl => hK g w1 hgs hb hbl)
  have hrun : (Instr.box 76 (.agg v.cells)).run Try.prog w = .ok (.pointer (some ⟨w.heap.size, 0, none⟩)) (w.alloc (.cells v.cells 76)) := by
    simp [Instr.box, newVar, newRow, Value.cells, go_sem]
  simp [execOp, hop, hx, Result.andThen, hrun]
end
/-- A step's row of one is laid: what an append asks and gives. -/
theorem PS.join {W W2 : World} {pp : Nat} {s : ByteArray} {z : Int} {xs : List ST} {b : Option Nat} {v : ST} {cap : Nat} (h1 : W.heap[pp]? = some (.cells #[.string s, .int .i64 z, slOf b xs.length cap] 72 (0, 0))) (h2 : W.ownsRow 0 76 7 (slOf b xs.length cap) xs.length (flatS xs)) (hne : b ≠ some pp) (hW : W2 = W.alloc (.cells v.cells 76)) :
    W2.ownsRow 0 76 7 (slOf b xs.length cap) xs.length (flatS xs) ∧ (∀ j u, v.cells.toList[j]? = some u → W2.cell? ((⟨W.heap.size, 0, none⟩ : Addr).add j) = some u) ∧
      ∀ x w', w'.ownsRow 0 76 7 x (xs.length + 1) (flatS xs ++ v.cells.toList) → W2.grownBy w' (slOf b xs.length cap).ownBlock → (x.ownBlock = (slOf b xs.length cap).ownBlock ∨ x.ownBlock = some W2.heap.size) → ∃ b' cap', x = slOf b' (xs.length + 1) cap' ∧ w'.cell? ⟨pp, 2, none⟩ = some (slOf b xs.length cap) ∧ w'.frozen? ⟨pp, 2, none⟩ = false ∧ PS (w'.setCell ⟨pp, 2, none⟩ (slOf b' (xs.length + 1) cap')) pp s z (xs ++ [v]) b' ∧ Ch pp b W (w'.setCell ⟨pp, 2, none⟩ (slOf b' (xs.length + 1) cap')) b' := by
  have hPS : PS W pp s z xs b := ⟨⟨cap, h1, h2⟩, hne⟩
  have hb2 : Below W.heap.size W W2 := by rw [hW]; exact below_alloc (Below.refl _ _) _
  have hnew : W2.heap[W.heap.size]? = some (.cells v.cells 76 (0, 0)) := by rw [hW]; exact blk_new W _
  have hsz2 := hb2.size
  have hlt := hPS.lt
  have hbl := fun k hk => hPS.blt (k := k) hk
  have a1 : W2.heap[pp]? = _ := (hb2.block pp hlt).trans h1
  refine ⟨⟨h2.1, ?_⟩, fun j u hj => ?_, fun x w' hown hgr hat => ?_⟩
  · rcases h2.2 with hv | ⟨g, c2, cur, hv, hb, hc, hr⟩
    · exact .inl hv
    · exact .inr ⟨g, c2, cur, hv, hb, (hb2.block g (hbl g (slOf_some hv))).trans hc, hr⟩
  · have h0 := blk_cell hnew j
    rw [Array.getElem?_toList] at hj
    have e : ((⟨W.heap.size, 0, none⟩ : Addr).add j) = ⟨W.heap.size, j, none⟩ := by unfold Addr.add; split <;> simp_all
    rw [e, h0]
    exact hj
  · obtain ⟨b', cap', rfl⟩ := own_st hown
    rw [slOf_own] at hat hgr
    rw [slOf_own] at hat
    have a2 : w'.heap[pp]? = _ := (hgr.block pp (by omega) (fun e => hne e.symm)).trans a1
    have hne' : b' ≠ some pp := fun e => by
      rcases hat with hat | hat
      · exact hne (hat ▸ e)
      · rw [e] at hat; cases hat; omega
    have hgs := hgr.size
    have hset : ∀ k, k ≠ pp → (w'.setCell ⟨pp, 2, none⟩ (slOf b' (xs.length + 1) cap')).heap[k]? = w'.heap[k]? := fun k hk => Below.heap_setCell w' ⟨pp, 2, none⟩ _ k hk
    have e : flatS (xs ++ [v]) = flatS xs ++ v.cells.toList := by unfold flatS; rw [List.flatMap_append]; simp
    have elen : (xs ++ [v]).length = xs.length + 1 := by simp
    refine ⟨b', cap', rfl, (blk_cell a2 2).trans rfl, blk_frozen a2 2, ⟨⟨cap', ?_, ?_⟩, hne'⟩, ⟨hgr.os.trans hb2.os, hgr.tape.trans hb2.tape, hgr.output.trans hb2.output, by have : (w'.setCell ⟨pp, 2, none⟩ (slOf b' (xs.length + 1) cap')).heap.size = w'.heap.size := by simp
                                                                                                                                                                              omega, fun k hk hp hb => (hset k hp).trans ((hgr.block k (by omega) (fun e => hb e.symm)).trans (hb2.block k hk)), ?_⟩⟩
    · rw [elen]; exact (blk_set a2 2 _).trans rfl
    · rw [elen, e]
      refine ⟨hown.1, ?_⟩
      rcases hown.2 with hv | ⟨g, c2, cur, hv, hb, hc, hr⟩
      · exact .inl hv
      · exact .inr ⟨g, c2, cur, hv, hb, (hset g (fun e => hne' (e ▸ slOf_some hv))).trans hc, hr⟩
    · rcases hat with hat | hat
      · exact .inl hat
      · exact .inr fun k hk => by rw [hk] at hat; cases hat; omega
end Go.Proofs.Ytclgnefeankbgaa.M
namespace Go.Proofs.Ytclgnefeankbgaa.M
open Go Go.RowKit Go.Proofs.YtclgnefeankbgaaW.PrintWords Go.Proofs.YtclgnefeankbgaaW.PrintLast Go.Proofs.YtclgnefeankbgaaW.PrintMore Hand
attribute [local go_sem] Oper.semAt_some max2_int min2_int max_two min_two max_three min_three max_four min_four
set_option linter.unusedVariables false
set_option linter.unusedSimpArgs false
set_option maxHeartbeats 8000000 in
set_option maxRecDepth 100000 in
theorem put.calls (pp : Nat) (v : ST) (s : ByteArray) (z : Int) (xs : List ST) (b : Option Nat) (W : World) (h : PS W pp s z xs b) (hl : xs.length ≤ 2000) :
    Calls Try.prog 37 #[.pointer (some ⟨pp, 0, none⟩), .agg v.cells] W fun e w' => ∃ b', e = .returned (.int .i64 (xs.length : Int)) ∧ PS w' pp s z (xs ++ [v]) b' ∧ Ch pp b W w' b' := by
  obtain ⟨N, hN⟩ : ∃ N, xs.length = N := ⟨_, rfl⟩
  have HN0 := Aside0.mk hN
  have HPS := Aside0.mk h
  have HL := Aside0.mk hl
  have hN2 : N ≤ 2000 := by omega
  have w1 : IntKind.i64.wrap ((N : Int) + 1 - 1) = (N : Int) := by rw [IntKind.wrap_i64]; omega
  have w2 : IntKind.i64.wrap (((N + 1 : Nat) : Int) - 1) = (N : Int) := by rw [IntKind.wrap_i64]; omega
  clear h hl hN
  go_enter Try.func37, Try.ntmps37
  go_wp2_with ((with_reducible refine gate_box (t := 76) (d := 3) rfl rfl ?_); refine box_st rfl rfl _ rfl v rfl ?_; intro r3 w9 hg1 hc1 hb1; have HB := Aside0.mk hb1; have HV := Aside0.mk hc1; have HP := Aside0.mk (HPS.out.call hb1); clear hg1 hc1 hb1)
  obtain ⟨⟨cap, h1, h2⟩, hne⟩ := HP.out
  obtain ⟨p1, p2, p3⟩ := PS.join (W := w9.drew) (v := v) h1 h2 hne rfl
  rw [HN0.out] at p1 p3
  have HO := Aside0.mk p1
  have HN := Aside0.mk p2
  have HJ := Aside0.mk p3
  have k2 : w9.cell? ⟨pp, 2, none⟩ = some (.slice (b.map fun g => ⟨g, 0, none⟩) N cap) := by rw [← HN0.out]; exact (blk_cell h1 2).trans rfl
  have q0 : w9.cell? ⟨r3, 0, none⟩ = some (.int .i64 v.op) := (blk_cell HV.out 0).trans rfl
  have q1 : w9.cell? ⟨r3, 1, none⟩ = some (.int .u64 v.c.a) := (blk_cell HV.out 1).trans rfl
  have q2 : w9.cell? ⟨r3, 2, none⟩ = some (.int .u64 v.c.b) := (blk_cell HV.out 2).trans rfl
  have q3 : w9.cell? ⟨r3, 3, none⟩ = some (.int .u64 v.c.c) := (blk_cell HV.out 3).trans rfl
  have q4 : w9.cell? ⟨r3, 4, none⟩ = some (.int .u64 v.c.d) := (blk_cell HV.out 4).trans rfl
  have q5 : w9.cell? ⟨r3, 5, none⟩ = some (.int .i64 v.a) := (blk_cell HV.out 5).trans rfl
  have q6 : w9.cell? ⟨r3, 6, none⟩ = some (.int .i64 v.b) := (blk_cell HV.out 6).trans rfl
  have kx3 : (w9.alloc (.cells #[.int .i64 v.op, .int .u64 v.c.a, .int .u64 v.c.b, .int .u64 v.c.c, .int .u64 v.c.d, .int .i64 v.a, .int .i64 v.b] 76)).cell? ⟨pp, 2, none⟩ = some (.slice (b.map fun g => ⟨g, 0, none⟩) N cap) := by
    have a : (w9.alloc (.cells #[.int .i64 v.op, .int .u64 v.c.a, .int .u64 v.c.b, .int .u64 v.c.c, .int .u64 v.c.d, .int .i64 v.a, .int .i64 v.b] 76)).heap[pp]? = _ := ((below_alloc (Below.refl w9.heap.size w9) _).block pp (blk_lt h1)).trans h1
    rw [← HN0.out]
    exact (blk_cell a 2).trans rfl
  clear h1 h2 hne p1 p2 p3
  go_region_law (refine step_append_st rfl _ _ rfl _ N (flatS xs) rfl HO.out ⟨w9.heap.size, 0, none⟩ v.cells.toList rfl rfl HN.out (one7 v) hN2 ?_; intro x w4 g1 g2 g3; obtain ⟨b', cap', hx9, c1, c2, c3, c4⟩ := HJ.out x w4 g1 g2 g3; have hx8 : x = .slice (b'.map fun g => ⟨g, 0, none⟩) (N + 1) cap' := hx9; subst hx8; have k4 : w4.cell? ⟨pp, 2, none⟩ = some (.slice (b.map fun g => ⟨g, 0, none⟩) N cap) := c1; have f4 := c2; have HC3 := Aside0.mk c3; have HC4 := Aside0.mk c4; clear g1 g2 g3 hx9 c1 c2 c3 c4)
  all_goals (
    go_wp2
    go_ret
    exact ⟨b', by rw [HN0.out]; rfl, HC3.out, (Ch.of_below (HB.out.trans ((below_drew1 (Below.refl _ _)).mono HB.out.size))).trans HC4.out⟩)
end Go.Proofs.Ytclgnefeankbgaa.M
namespace Go.Proofs.Ytclgnefeankbgaa.M
open Go Go.RowKit
set_option linter.unusedVariables false
set_option linter.unusedSimpArgs false
/-- A repetition's numbers are in order; a leaf has no parts. -/
def Pt.fit : Pt → Prop
  | .nil => True
  | .cons k c le mo nu kids rest => (0 ≤ k ∧ k ≤ 5 ∧ (k = 5 → (nu = false → (le = 0 ∧ mo = -1) ∨ (le = 1 ∧ mo = -1) ∨ (le = 0 ∧ mo = 1)) ∧ (nu = true → mo = -1 ∨ le ≤ mo))) ∧ kids.fit ∧ rest.fit
def Pt.one : Pt → Prop
  | .cons _ _ _ _ _ _ .nil => True
  | _ => False
theorem Pt.one_len {t : Pt} (h : t.one) : t.len = 1 := by
  cases t with
  | nil => cases h
  | cons k c le mo nu kids rest => cases rest with
    | nil => rfl
    | cons => cases h
theorem Pt.one_of {t : Pt} (h : t.len = 1) : t.one := by
  cases t with
  | nil => cases h
  | cons k c le mo nu kids rest => cases rest with
    | nil => trivial
    | cons => unfold Pt.len at h; unfold Pt.len at h; omega
theorem Pt.app_len : ∀ (t u : Pt), (t.app u).len = t.len + u.len
  | .nil, u => by unfold Pt.app; rw [show Pt.nil.len = 0 from rfl, Nat.zero_add]
  | .cons k c le mo nu kids rest, u => by
    unfold Pt.app
    show (rest.app u).len + 1 = rest.len + 1 + u.len
    rw [Pt.app_len rest u]
    omega
theorem Pt.app_ok : ∀ {t u : Pt}, t.ok → u.ok → (t.app u).ok
  | .nil, u, _, h => h
  | .cons .., u, ⟨a, b, c⟩, h => ⟨a, b, Pt.app_ok c h⟩
theorem Pt.app_fit : ∀ {t u : Pt}, t.fit → u.fit → (t.app u).fit
  | .nil, u, _, h => h
  | .cons .., u, ⟨a, b, c⟩, h => ⟨a, b, Pt.app_fit c h⟩
/-- A part that the reader makes. -/
structure Pt.good (t : Pt) : Prop where
  one : t.one
  ok : t.ok
  fit : t.fit
theorem leafT_good {k : Int} (c : C4) (h0 : 0 ≤ k) (h1 : k ≤ 2) : (leafT k c).good := ⟨trivial, ⟨⟨by omega, by omega, by omega, by omega, by unfold Pt.len; omega, by omega, by omega⟩, trivial, trivial⟩, ⟨⟨by omega, by omega, by omega⟩, trivial, trivial⟩⟩
theorem repT_good {le mo : Int} {nu : Bool} {t : Pt} (h : t.good) (a : 0 ≤ le ∧ le ≤ 60 ∧ -1 ≤ mo ∧ mo ≤ 60) (b : (nu = false → (le = 0 ∧ mo = -1) ∨ (le = 1 ∧ mo = -1) ∨ (le = 0 ∧ mo = 1)) ∧ (nu = true → mo = -1 ∨ le ≤ mo)) : (repT le mo nu t).good := by
  have hl := Pt.one_len h.one
  exact ⟨trivial, ⟨⟨a.1, a.2.1, a.2.2.1, a.2.2.2, by omega, by omega, fun _ => hl⟩, h.ok, trivial⟩, ⟨⟨by omega, by omega, fun _ => b⟩, h.fit, trivial⟩⟩
theorem countR_range {s : ByteArray} {p q : Nat} {le mo : Int} (hp : p ≤ s.size) (h : countR s p = .ok (le, mo) q) : 0 ≤ le ∧ le ≤ 60 ∧ (mo = -1 ∨ (le ≤ mo ∧ mo ≤ 60)) := by
  unfold countR at h
  cases h1 : numberR s 0 p with
  | bad n => rw [h1] at h; cases h
  | ok l1 q1 =>
    rw [h1] at h
    simp only at h
    have h2 := numberR_ok hp h1
    by_cases t1 : takeP s q1 44 = true
    · rw [if_pos t1] at h
      have h3 := takeP_lt t1
      by_cases d : seeP s (q1 + 1) = 125
      · rw [if_pos d] at h
        cases h
        omega
      · rw [if_neg d] at h
        cases h5 : numberR s l1 (q1 + 1) with
        | bad n => rw [h5] at h; cases h
        | ok m2 q2 =>
          rw [h5] at h
          simp only at h
          have h6 := numberR_ok (by omega) h5
          by_cases t3 : takeP s q2 125 = true
          · rw [if_pos t3] at h
            cases h
            omega
          · rw [if_neg t3] at h; cases h
    · rw [if_neg t1] at h
      by_cases t3 : takeP s q1 125 = true
      · rw [if_pos t3] at h
        cases h
        omega
      · rw [if_neg t3] at h; cases h
theorem atomR_good {alt : Nat → Rs Pt} {s : ByteArray} {fold : Bool} {p q : Nat} {t : Pt} (ha : ∀ t q, p < s.size → alt (p + 1) = .ok t q → t.good) (h : atomR alt s fold p = .ok t q) : t.good := by
  unfold atomR at h
  by_cases c1 : seeP s p < 32 ∨ 126 < seeP s p ∨ 0 ≤ stopI (seeP s p)
  · rw [if_pos c1] at h; cases h
  rw [if_neg c1] at h
  have hlt : p < s.size := seeP_lt (fun e => c1 (.inl (by rw [e]; decide)))
  by_cases c2 : seeP s p = 46
  · rw [if_pos c2] at h; cases h; exact leafT_good _ (by omega) (by omega)
  rw [if_neg c2] at h
  by_cases c3 : seeP s p = 94
  · rw [if_pos c3] at h; cases h; exact leafT_good _ (by omega) (by omega)
  rw [if_neg c3] at h
  by_cases c4 : seeP s p = 36
  · rw [if_pos c4] at h; cases h; exact leafT_good _ (by omega) (by omega)
  rw [if_neg c4] at h
  by_cases c5 : seeP s p = 40
  · rw [if_pos c5] at h
    cases h1 : alt (p + 1) with
    | bad n => rw [h1] at h; cases h
    | ok t1 q1 =>
      rw [h1] at h
      simp only at h
      have h2 := ha t1 q1 hlt h1
      by_cases d : takeP s q1 41 = true
      · rw [if_pos d] at h
        cases h
        exact h2
      · rw [if_neg d] at h; cases h
  rw [if_neg c5] at h
  by_cases c6 : seeP s p = 91
  · rw [if_pos c6] at h
    cases h1 : brR s fold (p + 1) with
    | bad n => rw [h1] at h; cases h
    | ok c q1 => rw [h1] at h; cases h; exact leafT_good _ (by omega) (by omega)
  rw [if_neg c6] at h
  by_cases c7 : seeP s p = 92
  · rw [if_pos c7] at h
    cases h1 : escR s p with
    | bad n => rw [h1] at h; cases h
    | ok x q1 => rw [h1] at h; cases h; exact leafT_good _ (by omega) (by omega)
  rw [if_neg c7] at h
  cases h
  exact leafT_good _ (by omega) (by omega)
theorem repL_good {s : ByteArray} : ∀ (n p : Nat) (t u : Pt) (q : Nat), p ≤ s.size → t.good → repL s n p t = .ok u q → u.good
  | 0, p, t, u, q, hp, hg, h => by
    rw [repL] at h
    cases h
    exact hg
  | n + 1, p, t, u, q, hp, hg, h => by
    rw [repL] at h
    by_cases c1 : takeP s p 42 = true
    · rw [if_pos c1] at h
      have := takeP_lt c1
      exact repL_good n (p + 1) _ u q (by omega) (repT_good hg (by omega) ⟨fun _ => .inl ⟨rfl, rfl⟩, fun h => by cases h⟩) h
    rw [if_neg c1] at h
    by_cases c2 : takeP s p 43 = true
    · rw [if_pos c2] at h
      have := takeP_lt c2
      exact repL_good n (p + 1) _ u q (by omega) (repT_good hg (by omega) ⟨fun _ => .inr (.inl ⟨rfl, rfl⟩), fun h => by cases h⟩) h
    rw [if_neg c2] at h
    by_cases c3 : takeP s p 63 = true
    · rw [if_pos c3] at h
      have := takeP_lt c3
      exact repL_good n (p + 1) _ u q (by omega) (repT_good hg (by omega) ⟨fun _ => .inr (.inr ⟨rfl, rfl⟩), fun h => by cases h⟩) h
    rw [if_neg c3] at h
    by_cases c4 : takeP s p 123 = true
    · rw [if_pos c4] at h
      have := takeP_lt c4
      cases h1 : countR s (p + 1) with
      | bad k => rw [h1] at h; cases h
      | ok x q1 =>
        rw [h1] at h
        simp only at h
        obtain ⟨le, mo⟩ := x
        have h2 := countR_ok (by omega) h1
        have h3 := countR_range (by omega) h1
        exact repL_good n q1 _ u q (by omega) (repT_good hg (by show 0 ≤ le ∧ le ≤ 60 ∧ -1 ≤ mo ∧ mo ≤ 60; omega) ⟨fun h => (by cases h), fun _ => (by show mo = -1 ∨ le ≤ mo; omega)⟩) h
    rw [if_neg c4] at h
    cases h
    exact hg
theorem catL_good {rep : Nat → Rs Pt} {s : ByteArray} (hr : ∀ p t q, p < s.size → rep p = .ok t q → p < q ∧ q ≤ s.size) (hg : ∀ p t q, p < s.size → rep p = .ok t q → t.good) : ∀ (n p : Nat) (f u : Pt) (q : Nat), p ≤ s.size → f.ok → f.fit → f.len ≤ p → catL rep s n p f = .ok u q → u.ok ∧ u.fit ∧ u.len ≤ q
  | 0, p, f, u, q, hp, a, b, c, h => by
    rw [catL] at h
    cases h
    exact ⟨a, b, c⟩
  | n + 1, p, f, u, q, hp, a, b, c, h => by
    rw [catL] at h
    by_cases c1 : p < s.size ∧ seeP s p ≠ 124 ∧ seeP s p ≠ 41
    · rw [if_pos c1] at h
      cases h1 : rep p with
      | bad k => rw [h1] at h; cases h
      | ok t q1 =>
        rw [h1] at h
        simp only at h
        have h2 := hr p t q1 c1.1 h1
        have h3 := hg p t q1 c1.1 h1
        have h4 := Pt.one_len h3.one
        exact catL_good hr hg n q1 _ u q h2.2 (Pt.app_ok a h3.ok) (Pt.app_fit b h3.fit) (by rw [Pt.app_len]; omega) h
    · rw [if_neg c1] at h
      cases h
      exact ⟨a, b, c⟩
theorem catR_good {rep : Nat → Rs Pt} {s : ByteArray} {p q : Nat} {t : Pt} (hs : s.size ≤ 200) (hr : ∀ p t q, p < s.size → rep p = .ok t q → p < q ∧ q ≤ s.size) (hg : ∀ p t q, p < s.size → rep p = .ok t q → t.good) (hp : p ≤ s.size) (h : catR rep s p = .ok t q) : t.good := by
  unfold catR at h
  cases h1 : catL rep s (s.size + 1 - p) p .nil with
  | bad k => rw [h1] at h; cases h
  | ok f q1 =>
    rw [h1] at h
    have h2 := catL_ok hr _ _ _ _ _ hp h1
    have h3 := catL_good hr hg _ p .nil _ _ hp (show Pt.ok .nil from trivial) (show Pt.fit .nil from trivial) (by show 0 ≤ p; omega) h1
    unfold catEnd at h
    cases h
    exact ⟨trivial, ⟨⟨by omega, by omega, by omega, by omega, by omega, by omega, by omega⟩, h3.1, trivial⟩, ⟨⟨by omega, by omega, by omega⟩, h3.2.1, trivial⟩⟩
theorem altL_good {cat : Nat → Rs Pt} {s : ByteArray} (hr : ∀ p t q, p ≤ s.size → cat p = .ok t q → p ≤ q ∧ q ≤ s.size) (hg : ∀ p t q, p ≤ s.size → cat p = .ok t q → t.good) : ∀ (n p : Nat) (f u : Pt) (q : Nat), p ≤ s.size → f.ok → f.fit → 0 < f.len → f.len ≤ p + 1 → altL cat s n p f = .ok u q → u.ok ∧ u.fit ∧ 0 < u.len ∧ u.len ≤ q + 1
  | 0, p, f, u, q, hp, a, b, c0, c, h => by
    rw [altL] at h
    cases h
    exact ⟨a, b, c0, c⟩
  | n + 1, p, f, u, q, hp, a, b, c0, c, h => by
    rw [altL] at h
    by_cases c1 : takeP s p 124 = true
    · rw [if_pos c1] at h
      have hl := takeP_lt c1
      cases h1 : cat (p + 1) with
      | bad k => rw [h1] at h; cases h
      | ok t q1 =>
        rw [h1] at h
        simp only at h
        have h2 := hr (p + 1) t q1 (by omega) h1
        have h3 := hg (p + 1) t q1 (by omega) h1
        have h4 := Pt.one_len h3.one
        exact altL_good hr hg n q1 _ u q h2.2 (Pt.app_ok a h3.ok) (Pt.app_fit b h3.fit) (by rw [Pt.app_len]; omega) (by rw [Pt.app_len]; omega) h
    · rw [if_neg c1] at h
      cases h
      exact ⟨a, b, c0, c⟩
theorem altB_good {cat : Nat → Rs Pt} {s : ByteArray} {p q : Nat} {t : Pt} (hs : s.size ≤ 200) (hr : ∀ p t q, p ≤ s.size → cat p = .ok t q → p ≤ q ∧ q ≤ s.size) (hg : ∀ p t q, p ≤ s.size → cat p = .ok t q → t.good) (hp : p ≤ s.size) (h : altB cat s p = .ok t q) : t.good := by
  unfold altB at h
  cases h1 : cat p with
  | bad k => rw [h1] at h; cases h
  | ok u q1 =>
    rw [h1] at h
    simp only at h
    have h2 := hr p u q1 hp h1
    have h3 := hg p u q1 hp h1
    have h4 := Pt.one_len h3.one
    cases h5 : altL cat s (s.size + 1 - q1) q1 u with
    | bad k => rw [h5] at h; cases h
    | ok f q2 =>
      rw [h5] at h
      have h6 := altL_ok hr _ _ _ _ _ h2.2 h5
      have h7 := altL_good hr hg _ _ _ _ _ h2.2 h3.ok h3.fit (by omega) (by omega) h5
      unfold altEnd at h
      cases h
      by_cases d : f.len = 1
      · rw [if_pos d]
        exact ⟨Pt.one_of d, h7.1, h7.2.1⟩
      · rw [if_neg d]
        exact ⟨trivial, ⟨⟨by omega, by omega, by omega, by omega, by omega, fun _ => h7.2.2.1, by omega⟩, h7.1, trivial⟩, ⟨⟨by omega, by omega, by omega⟩, h7.2.1, trivial⟩⟩
theorem altR_good (s : ByteArray) (fold : Bool) (hs : s.size ≤ 200) : ∀ (n p : Nat) (t : Pt) (q : Nat), p ≤ s.size → altR s fold n p = .ok t q → t.good
  | 0, p, t, q, hp, h => by cases h
  | n + 1, p, t, q, hp, h => by
    rw [altR] at h
    have hro : ∀ p t q, p < s.size → repR (altR s fold n) s fold p = .ok t q → p < q ∧ q ≤ s.size := fun p t q hp h => repR_ok (fun t q hp h => altR_ok s fold n (p + 1) t q (by omega) h) h
    have hrg : ∀ p t q, p < s.size → repR (altR s fold n) s fold p = .ok t q → t.good := fun p t q hp h => by
      unfold repR at h
      cases h1 : atomR (altR s fold n) s fold p with
      | bad k => rw [h1] at h; cases h
      | ok u q1 =>
        rw [h1] at h
        have h2 := atomR_ok (fun t q hp h => altR_ok s fold n (p + 1) t q (by omega) h) h1
        exact repL_good _ _ _ _ _ h2.2 (atomR_good (fun t q hp h => altR_good s fold hs n (p + 1) t q (by omega) h) h1) h
    exact altB_good hs (fun p t q hp h => catR_ok hro hp h) (fun p t q hp h => catR_good hs hro hrg hp h) hp h
theorem readR_good {s : ByteArray} {fold : Bool} {t : Pt} {q : Nat} (hs : s.size ≤ 200) (h : readR s fold = .ok t q) : t.good := by
  unfold readR at h
  cases h1 : altR s fold (s.size + 1) 0 with
  | bad n => rw [h1] at h; cases h
  | ok u q1 =>
    rw [h1] at h
    simp only at h
    by_cases c : q1 < s.size
    · rw [if_pos c] at h; cases h
    · rw [if_neg c] at h
      cases h
      exact altR_good s fold hs _ _ _ _ (Nat.zero_le _) h1
end Go.Proofs.Ytclgnefeankbgaa.M
namespace Go.Proofs.Ytclgnefeankbgaa.M
open Go Go.RowKit
set_option linter.unusedVariables false
set_option linter.unusedSimpArgs false
def setA (xs : List ST) (i : Nat) (n : Int) : List ST := xs.modify i fun s => { s with a := n }
def setB (xs : List ST) (i : Nat) (n : Int) : List ST := xs.modify i fun s => { s with b := n }
@[simp] theorem setA_len (xs : List ST) (i : Nat) (n : Int) : (setA xs i n).length = xs.length := by unfold setA; simp
@[simp] theorem setB_len (xs : List ST) (i : Nat) (n : Int) : (setB xs i n).length = xs.length := by unfold setB; simp
/-- A split behind the steps, that leads on to the next one. -/
def splitA (xs : List ST) : List ST := setA (xs ++ [⟨3, C4.nil, 0, 0⟩]) xs.length ((xs.length : Int) + 1)
@[simp] theorem splitA_len (xs : List ST) : (splitA xs).length = xs.length + 1 := by unfold splitA; simp
def altC : List (List ST → List ST) → List Nat → List ST → List Nat × List ST
  | [], e, xs => (e, xs)
  | [f], e, xs => (e, f xs)
  | f :: g :: fs, e, xs => altC (g :: fs) (e ++ [(f (splitA xs)).length]) (setB (f (splitA xs) ++ [⟨4, C4.nil, 0, 0⟩]) xs.length (((f (splitA xs)).length : Int) + 1))
def patchA (l : List Nat) (xs : List ST) : List ST := l.foldl (fun xs k => setA xs k xs.length) xs
def patchB (l : List Nat) (xs : List ST) : List ST := l.foldl (fun xs k => setB xs k xs.length) xs
theorem patchA_len : ∀ (l : List Nat) (xs : List ST), (patchA l xs).length = xs.length
  | [], xs => rfl
  | k :: l, xs => by
    unfold patchA
    rw [List.foldl_cons]
    have := patchA_len l (setA xs k xs.length)
    unfold patchA at this
    rw [this, setA_len]
theorem patchB_len : ∀ (l : List Nat) (xs : List ST), (patchB l xs).length = xs.length
  | [], xs => rfl
  | k :: l, xs => by
    unfold patchB
    rw [List.foldl_cons]
    have := patchB_len l (setB xs k xs.length)
    unfold patchB at this
    rw [this, setB_len]
def iterC (f : List ST → List ST) : Nat → List ST → List ST
  | 0, xs => xs
  | n + 1, xs => iterC f n (f xs)
def optC (f : List ST → List ST) : Nat → List Nat → List ST → List Nat × List ST
  | 0, e, xs => (e, xs)
  | n + 1, e, xs => if (f (splitA xs)).length = xs.length + 1 then (e, (f (splitA xs)).take xs.length) else optC f n (e ++ [xs.length]) (f (splitA xs))
def repC (le mo : Int) (f : List ST → List ST) (xs : List ST) : List ST :=
  if mo < 0 ∧ le = 0 then
    if (f (splitA xs)).length = xs.length + 1 then (f (splitA xs)).take xs.length
    else setB (f (splitA xs) ++ [⟨4, C4.nil, xs.length, 0⟩]) xs.length (((f (splitA xs)).length : Int) + 1)
  else if mo < 0 then
    if (iterC f (le - 1).toNat xs).length < (f (iterC f (le - 1).toNat xs)).length then
      setB (f (iterC f (le - 1).toNat xs) ++ [⟨3, C4.nil, (iterC f (le - 1).toNat xs).length, 0⟩]) (f (iterC f (le - 1).toNat xs)).length (((f (iterC f (le - 1).toNat xs)).length : Int) + 1)
    else f (iterC f (le - 1).toNat xs)
  else patchB (optC f (mo - le).toNat [] (iterC f le.toNat xs)).1 (optC f (mo - le).toNat [] (iterC f le.toNat xs)).2
def code1 (k : Int) (c : C4) (le mo : Int) (fs : List (List ST → List ST)) (xs : List ST) : List ST :=
  if k = 0 then xs ++ [⟨0, c, 0, 0⟩]
  else if k = 1 then xs ++ [⟨1, C4.nil, 0, 0⟩]
  else if k = 2 then xs ++ [⟨2, C4.nil, 0, 0⟩]
  else if k = 3 then fs.foldl (fun xs f => f xs) xs
  else if k = 4 then patchA (altC fs [] xs).1 (altC fs [] xs).2
  else repC le mo (fs.headD id) xs
def codes : Pt → List (List ST → List ST)
  | .nil => []
  | .cons k c le mo nu kids rest => code1 k c le mo (codes kids) :: codes rest
def sizes : Pt → List Int
  | .nil => []
  | .cons k c le mo nu kids rest => szOf k le mo nu (sumP kids 0) kids.len :: sizes rest
/-- A writing makes the steps longer, at most by L. -/
def Gr (f : List ST → List ST) (L : Nat) : Prop := ∀ xs, xs.length ≤ (f xs).length ∧ (f xs).length ≤ xs.length + L
def bnd (z : Int) : Nat := (4 * z - 1).toNat
def GrL : List (List ST → List ST) → List Int → Prop
  | [], [] => True
  | f :: fs, z :: zs => (z ≤ 300 → Gr f (bnd z)) ∧ 0 ≤ z ∧ GrL fs zs
  | _, _ => False
theorem sum_exact : ∀ (f : Pt) (n : Int), f.ok → 0 ≤ n → sumP f n < 600 → sumP f n = n + (sizes f).sum ∧ 0 ≤ (sizes f).sum
  | .nil, n, h, h0, h1 => by
    unfold sizes
    simp [sumP]
  | .cons k c le mo nu kids rest, n, ⟨h, hk, hr⟩, h0, h1 => by
    have a := sumP_range kids 0 hk (by omega) (by omega)
    have b := szOf_range (k := k) (nu := nu) (len := kids.len) ⟨h.1, h.2.1, h.2.2.1, h.2.2.2.1⟩ h.2.2.2.2.1 h.2.2.2.2.2.1 a.1 a.2
    rw [sumP] at h1 ⊢
    have key : ∀ (f : Pt) (m : Int), f.ok → 0 ≤ m → m ≤ 600 → m ≤ sumP f m := by
      intro f
      induction f with
      | nil => intro m _ _ _; exact Int.le_refl _
      | cons k c le mo nu kids rest _ ih =>
        intro m hok hm0 hm
        obtain ⟨h, hk, hr⟩ := hok
        have a := sumP_range kids 0 hk (by omega) (by omega)
        have b := szOf_range (k := k) (nu := nu) (len := kids.len) ⟨h.1, h.2.1, h.2.2.1, h.2.2.2.1⟩ h.2.2.2.2.1 h.2.2.2.2.2.1 a.1 a.2
        rw [sumP]
        have := ih (min (m + szOf k le mo nu (sumP kids 0) kids.len) 600) hr (by omega) (by omega)
        omega
    have hm := key rest (min (n + szOf k le mo nu (sumP kids 0) kids.len) 600) hr (by omega) (by omega)
    have he : min (n + szOf k le mo nu (sumP kids 0) kids.len) 600 = n + szOf k le mo nu (sumP kids 0) kids.len := by omega
    rw [he] at h1 ⊢
    have ih := sum_exact rest _ hr (by omega) h1
    unfold sizes
    rw [List.sum_cons]
    omega
theorem Gr.mono {f : List ST → List ST} {L M : Nat} (h : Gr f L) (hl : L ≤ M) : Gr f M := fun xs => ⟨(h xs).1, by have := (h xs).2; omega⟩
theorem grl_cat : ∀ (fs : List (List ST → List ST)) (zs : List Int), GrL fs zs → zs.sum ≤ 300 → 0 ≤ zs.sum ∧ Gr (fun xs => fs.foldl (fun xs f => f xs) xs) (bnd zs.sum)
  | [], [], h, hs => ⟨by simp, fun xs => by simp⟩
  | f :: fs, z :: zs, ⟨h0, hz, h1⟩, hs => by
    rw [List.sum_cons] at hs ⊢
    have hnn : ∀ (fs : List (List ST → List ST)) (zs : List Int), GrL fs zs → 0 ≤ zs.sum := by
      intro fs
      induction fs with
      | nil => intro zs h; cases zs with
        | nil => simp
        | cons => cases h
      | cons f fs ih => intro zs h; cases zs with
        | nil => cases h
        | cons z zs => rw [List.sum_cons]; have := ih zs h.2.2; have := h.2.1; omega
    have hn := hnn fs zs h1
    have ih := grl_cat fs zs h1 (by omega)
    refine ⟨by omega, fun xs => ?_⟩
    have a := h0 (by omega) xs
    have b := ih.2 (f xs)
    simp only [List.foldl_cons] at b ⊢
    unfold bnd at a b ⊢
    omega
  | [], _ :: _, h, hs => by cases h
  | _ :: _, [], h, hs => by cases h
theorem altC_len : ∀ (fs : List (List ST → List ST)) (zs : List Int) (e : List Nat) (xs : List ST), GrL fs zs → 0 < fs.length → zs.sum + fs.length - 1 ≤ 300 → xs.length ≤ (altC fs e xs).2.length ∧ (altC fs e xs).2.length ≤ xs.length + bnd (zs.sum + fs.length - 1)
  | [], zs, e, xs, h, hl, hs => by simp at hl
  | [f], zs, e, xs, h, hl, hs => by
    cases zs with
    | nil => cases h
    | cons z zs => cases zs with
      | cons => cases h.2.2
      | nil =>
        have a := h.1 (by simp at hs; omega) xs
        rw [altC]
        simp
        exact a
  | f :: g :: fs, zs, e, xs, h, hl, hs => by
    cases zs with
    | nil => cases h
    | cons z zs =>
      obtain ⟨h0, hz, h1⟩ := h
      have hn := hzs (g :: fs) zs h1
      rw [List.sum_cons] at hs ⊢
      simp only [List.length_cons] at hs ⊢
      have a := h0 (by omega) (splitA xs)
      have b := altC_len (g :: fs) zs (e ++ [(f (splitA xs)).length]) (setB (f (splitA xs) ++ [⟨4, C4.nil, 0, 0⟩]) xs.length (((f (splitA xs)).length : Int) + 1)) h1 (by simp) (by simp only [List.length_cons]; omega)
      rw [altC]
      simp only [setB_len, List.length_append, List.length_cons, List.length_nil, splitA_len] at a b ⊢
      unfold bnd at a b ⊢
      omega
where
  hzs : ∀ (fs : List (List ST → List ST)) (zs : List Int), GrL fs zs → 0 ≤ zs.sum
    | [], [], _ => by simp
    | f :: fs, z :: zs, h => by rw [List.sum_cons]; have := hzs fs zs h.2.2; have := h.2.1; omega
    | [], _ :: _, h => by cases h
    | _ :: _, [], h => by cases h
theorem iterC_len {f : List ST → List ST} {L : Nat} (h : Gr f L) : ∀ (n : Nat) (xs : List ST), xs.length ≤ (iterC f n xs).length ∧ (iterC f n xs).length ≤ xs.length + n * L
  | 0, xs => by unfold iterC; omega
  | n + 1, xs => by
    have a := h xs
    have b := iterC_len h n (f xs)
    unfold iterC
    rw [Nat.succ_mul]
    omega
theorem optC_len {f : List ST → List ST} {L : Nat} (h : Gr f L) : ∀ (n : Nat) (e : List Nat) (xs : List ST), xs.length ≤ (optC f n e xs).2.length ∧ (optC f n e xs).2.length ≤ xs.length + n * (if L = 0 then 0 else L + 1)
  | 0, e, xs => by unfold optC; simp
  | n + 1, e, xs => by
    have a := h (splitA xs)
    rw [splitA_len] at a
    unfold optC
    by_cases c : (f (splitA xs)).length = xs.length + 1
    · rw [if_pos c]
      simp only [List.length_take]
      omega
    · rw [if_neg c]
      have b := optC_len h n (e ++ [xs.length]) (f (splitA xs))
      have hL : L ≠ 0 := fun e => by omega
      rw [if_neg hL] at b ⊢
      rw [Nat.succ_mul]
      omega
theorem repC_gr {f : List ST → List ST} {n le mo : Int} {nu : Bool} (hf : n ≤ 300 → Gr f (bnd n)) (hn : 0 ≤ n) (hle : 0 ≤ le) (hmo : -1 ≤ mo) (h0 : nu = false → (le = 0 ∧ mo = -1) ∨ (le = 1 ∧ mo = -1) ∨ (le = 0 ∧ mo = 1)) (h1 : nu = true → mo = -1 ∨ le ≤ mo) (hz : n * timesP le mo nu + 1 ≤ 300) : Gr (repC le mo f) (bnd (n * timesP le mo nu + 1)) := by
  intro xs
  obtain ⟨N, rfl⟩ : ∃ N : Nat, n = (N : Int) := ⟨n.toNat, by omega⟩
  by_cases c1 : mo < 0 ∧ le = 0
  · have ht : timesP le mo nu = 1 := by
      unfold timesP
      cases nu with
      | true => rw [if_pos rfl, if_pos c1.1, c1.2]; rfl
      | false => rw [if_neg (by decide)]
    rw [ht, Int.mul_one] at hz ⊢
    have a := hf (by omega) (splitA xs)
    rw [splitA_len] at a
    unfold repC
    rw [if_pos c1]
    unfold bnd at a ⊢
    by_cases c : (f (splitA xs)).length = xs.length + 1
    · rw [if_pos c, List.length_take]
      omega
    · rw [if_neg c, setB_len, List.length_append]
      simp only [List.length_cons, List.length_nil]
      omega
  · by_cases c2 : mo < 0
    · obtain ⟨m, rfl⟩ : ∃ m : Nat, le = ((m + 1 : Nat) : Int) := ⟨(le - 1).toNat, by omega⟩
      have ht : ((m + 1 : Nat) : Int) ≤ timesP ((m + 1 : Nat) : Int) mo nu := by
        unfold timesP
        cases nu with
        | true => rw [if_pos rfl, if_pos c2]; omega
        | false => rw [if_neg (by decide)]; have := h0 rfl; omega
      have hm : (N : Int) * ((m + 1 : Nat) : Int) ≤ (N : Int) * timesP ((m + 1 : Nat) : Int) mo nu := Int.mul_le_mul_of_nonneg_left ht (by omega)
      have hm1 : (N : Int) * ((m + 1 : Nat) : Int) = ((m * N + N : Nat) : Int) := by rw [← Int.natCast_mul, Nat.mul_comm, Nat.succ_mul]
      rw [hm1] at hm
      have g := hf (by omega)
      have hL : bnd (N : Int) ≤ 4 * N := by unfold bnd; omega
      have hL0 : N = 0 → bnd (N : Int) = 0 := fun h => by unfold bnd; omega
      have hmL : m * bnd (N : Int) ≤ 4 * (m * N) := Nat.le_trans (Nat.mul_le_mul_left m hL) (by rw [Nat.mul_left_comm]; exact Nat.le_refl _)
      have em : (((m + 1 : Nat) : Int) - 1).toNat = m := by omega
      unfold repC
      rw [if_neg c1, if_pos c2, em]
      have a := iterC_len g m xs
      have b := g (iterC f m xs)
      by_cases c : (iterC f m xs).length < (f (iterC f m xs)).length
      · rw [if_pos c, setB_len, List.length_append]
        simp only [List.length_cons, List.length_nil]
        have hN : N ≠ 0 := fun h => by rw [hL0 h] at b; omega
        unfold bnd at a b hmL ⊢
        omega
      · rw [if_neg c]
        unfold bnd at a b hmL ⊢
        omega
    · unfold repC
      rw [if_neg c1, if_neg c2, patchB_len]
      obtain ⟨m, rfl⟩ : ∃ m : Nat, mo = (m : Int) := ⟨mo.toNat, by omega⟩
      obtain ⟨l, rfl⟩ : ∃ l : Nat, le = (l : Int) := ⟨le.toNat, by omega⟩
      have hlm : l ≤ m := by
        cases nu with
        | true => have := h1 rfl; omega
        | false => have := h0 rfl; omega
      have ht : timesP (l : Int) (m : Int) nu = (m : Int) := by
        unfold timesP
        cases nu with
        | true => rw [if_pos rfl, if_neg c2]
        | false => rw [if_neg (by decide)]; have := h0 rfl; omega
      rw [ht] at hz ⊢
      have e1 : ((l : Int)).toNat = l := by omega
      have e2 : ((m : Int) - (l : Int)).toNat = m - l := by omega
      rw [e1, e2]
      cases m with
      | zero =>
        have : l = 0 := by omega
        subst this
        exact ⟨Nat.le_refl _, Nat.le_add_right _ _⟩
      | succ m =>
        have hm1 : (N : Int) * ((m + 1 : Nat) : Int) = ((m * N + N : Nat) : Int) := by rw [← Int.natCast_mul, Nat.mul_comm, Nat.succ_mul]
        rw [hm1] at hz ⊢
        have g := hf (by omega)
        have a := iterC_len g l xs
        have b := optC_len g (m + 1 - l) [] (iterC f l xs)
        by_cases hN : N = 0
        · have hb : bnd (N : Int) = 0 := by unfold bnd; omega
          rw [hb] at a b
          rw [if_pos rfl] at b
          rw [Nat.mul_zero] at a b
          omega
        · have hb : bnd (N : Int) = 4 * N - 1 := by unfold bnd; omega
          rw [hb] at a b
          rw [if_neg (by omega)] at b
          have q1 : l * (4 * N - 1) ≤ l * (4 * N) := Nat.mul_le_mul_left l (by omega)
          have q2 : (m + 1 - l) * (4 * N - 1 + 1) = (m + 1 - l) * (4 * N) := by congr 1; omega
          have q3 : l * (4 * N) + (m + 1 - l) * (4 * N) = (m + 1) * (4 * N) := by rw [← Nat.add_mul]; congr 1; omega
          have q4 : (m + 1) * (4 * N) = 4 * (m * N + N) := by rw [Nat.mul_left_comm]; congr 1; rw [Nat.succ_mul]
          rw [q2] at b
          unfold bnd
          omega
theorem grl_one {fs : List (List ST → List ST)} {z : Int} (h : GrL fs [z]) : ∃ f, fs = [f] ∧ (z ≤ 300 → Gr f (bnd z)) := by
  cases fs with
  | nil => cases h
  | cons f fs => cases fs with
    | nil => exact ⟨f, rfl, h.1⟩
    | cons => cases h.2.2
theorem grl_len : ∀ {fs : List (List ST → List ST)} {zs : List Int}, GrL fs zs → fs.length = zs.length
  | [], [], _ => rfl
  | _ :: _, _ :: _, h => by rw [List.length_cons, List.length_cons, grl_len h.2.2]
  | [], _ :: _, h => by cases h
  | _ :: _, [], h => by cases h
theorem sizes_len : ∀ f : Pt, (sizes f).length = f.len
  | .nil => rfl
  | .cons k c le mo nu kids rest => by unfold sizes; rw [List.length_cons, sizes_len rest]; rfl
theorem codes_gr : ∀ f : Pt, f.ok → f.fit → GrL (codes f) (sizes f)
  | .nil, _, _ => trivial
  | .cons k c le mo nu kids rest, ⟨h, hk, hr⟩, ⟨h', hk', hr'⟩ => by
    have ih := codes_gr kids hk hk'
    have a := sumP_range kids 0 hk (by omega) (by omega)
    have b := szOf_range (k := k) (nu := nu) (len := kids.len) ⟨h.1, h.2.1, h.2.2.1, h.2.2.2.1⟩ h.2.2.2.2.1 h.2.2.2.2.2.1 a.1 a.2
    refine ⟨fun hz => ?_, b.1, codes_gr rest hr hr'⟩
    have ex := fun hlt => sum_exact kids 0 hk (Int.le_refl 0) hlt
    unfold szOf at hz ⊢
    by_cases k4 : k = 4
    · subst k4
      rw [if_pos rfl] at hz ⊢
      have hl := h.2.2.2.2.2.1 rfl
      have e := ex (by omega)
      rw [Int.zero_add] at e
      rw [e.1] at hz ⊢
      have hcl : (codes kids).length = kids.len := by rw [grl_len ih, sizes_len]
      intro xs
      have g := altC_len (codes kids) (sizes kids) [] xs ih (by omega) (by rw [hcl]; exact hz)
      unfold code1
      rw [if_neg (by decide), if_neg (by decide), if_neg (by decide), if_neg (by decide), if_pos rfl, patchA_len]
      rw [hcl] at g
      exact g
    rw [if_neg k4] at hz ⊢
    by_cases k5 : k = 5
    · subst k5
      rw [if_pos rfl] at hz ⊢
      have hl := h.2.2.2.2.2.2 rfl
      have hlz : (sizes kids).length = 1 := by rw [sizes_len, hl]
      obtain ⟨z1, hz1⟩ := List.length_eq_one_iff.1 hlz
      rw [hz1] at ih
      obtain ⟨f, hf, hg⟩ := grl_one ih
      have hfit := h'.2.2 rfl
      have hgg : sumP kids 0 ≤ 300 → Gr f (bnd (sumP kids 0)) := fun hle => by
        have e := ex (by omega)
        rw [hz1] at e
        simp at e
        rw [e.1] at hle ⊢
        exact hg hle
      intro xs
      have g := repC_gr (f := f) (nu := nu) hgg a.1 h.1 h.2.2.1 hfit.1 hfit.2 hz xs
      unfold code1
      rw [if_neg (by decide), if_neg (by decide), if_neg (by decide), if_neg (by decide), if_neg (by decide), hf]
      exact g
    rw [if_neg k5] at hz ⊢
    by_cases k3 : k = 3
    · subst k3
      rw [if_pos rfl] at hz ⊢
      have e := ex (by omega)
      rw [Int.zero_add] at e
      rw [e.1] at hz ⊢
      have g := (grl_cat (codes kids) (sizes kids) ih hz).2
      intro xs
      have g := g xs
      unfold code1
      rw [if_neg (by decide), if_neg (by decide), if_neg (by decide), if_pos rfl]
      exact g
    rw [if_neg k3] at hz ⊢
    intro xs
    unfold code1 bnd
    by_cases k0 : k = 0
    · rw [if_pos k0]; simp
    rw [if_neg k0]
    by_cases k1 : k = 1
    · rw [if_pos k1]; simp
    rw [if_neg k1]
    by_cases k2 : k = 2
    · rw [if_pos k2]; simp
    exact absurd (show False by omega) id
end Go.Proofs.Ytclgnefeankbgaa.M
