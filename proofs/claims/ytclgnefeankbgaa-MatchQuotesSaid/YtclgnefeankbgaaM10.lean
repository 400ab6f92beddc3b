/- A pattern's parts: their values, the trees that lie behind them. Conditions: as each theorem says. -/
import Derived.Test.YtclgnefeankbgaaM9
import Derived.Laws.Rows
import Derived.Maps.OwnIn
namespace Go.Proofs.Ytclgnefeankbgaa.M
open Go Go.RowKit Go.Proofs.YtclgnefeankbgaaW.PrintWords Go.Proofs.YtclgnefeankbgaaW.PrintLast Go.Proofs.YtclgnefeankbgaaW.PrintMore Hand
attribute [local go_sem] Oper.semAt_some max2_int min2_int max_two min_two max_three min_three max_four min_four
set_option linter.unusedVariables false
set_option linter.unusedSimpArgs false
/-- A part as it lies in memory: its slice by its block, its length, its capacity. -/
structure PV where
  k : Int
  c : C4
  le : Int
  mo : Int
  nu : Bool
  b : Option Nat
  n : Nat
  cap : Nat
def slOf (b : Option Nat) (n cap : Nat) : Value := .slice (b.map fun g => ⟨g, 0, none⟩) n cap
def PV.sl (v : PV) : Value := slOf v.b v.n v.cap
def PV.cells (v : PV) : Array Value := #[.int .i64 v.k, .int .u64 v.c.a, .int .u64 v.c.b, .int .u64 v.c.c, .int .u64 v.c.d, .int .i64 v.le, .int .i64 v.mo, .bool v.nu, v.sl]
def PV.nil : PV := ⟨0, C4.nil, 0, 0, false, none, 0, 0⟩
/-- Parts one behind the other, each with its own parts. -/
inductive Pt where
  | nil
  | cons (k : Int) (c : C4) (le mo : Int) (nu : Bool) (kids rest : Pt)
def Pt.len : Pt → Nat
  | .nil => 0
  | .cons _ _ _ _ _ _ rest => rest.len + 1
def Pt.app : Pt → Pt → Pt
  | .nil, u => u
  | .cons k c le mo nu kids rest, u => .cons k c le mo nu kids (rest.app u)
def flatP (ws : List PV) : List Value := ws.flatMap fun v => v.cells.toList
theorem flatP_len : ∀ ws : List PV, (flatP ws).length = ws.length * 9
  | [] => rfl
  | v :: ws => by
    have := flatP_len ws
    unfold flatP at this ⊢
    rw [List.flatMap_cons, List.length_append, this, List.length_cons]
    have : v.cells.toList.length = 9 := rfl
    omega
/-- The row behind a part. -/
def RowP (W : World) (X : Nat → Prop) (v : PV) (ws : List PV) : Prop := v.n = ws.length ∧ W.ownsRow 0 67 9 v.sl v.n (flatP ws) ∧ ∀ g, v.b = some g → X g
def FV (W : World) (X : Nat → Prop) : Pt → List PV → Prop
  | .nil, vs => vs = []
  | .cons k c le mo nu kids rest, vs => ∃ v vs', vs = v :: vs' ∧ v.k = k ∧ v.c = c ∧ v.le = le ∧ v.mo = mo ∧ v.nu = nu ∧ (∃ ws, RowP W X v ws ∧ FV W X kids ws) ∧ FV W X rest vs'
theorem slOf_some {b : Option Nat} {n cap g m c2 : Nat} (h : slOf b n cap = .slice (some ⟨g, 0, none⟩) m c2) : b = some g := by
  unfold slOf at h
  cases b with
  | none => cases h
  | some x => cases h; rfl
theorem RowP.lt {W : World} {X : Nat → Prop} {v : PV} {ws : List PV} (h : RowP W X v ws) {g : Nat} (hg : v.b = some g) : g < W.heap.size := by
  obtain ⟨h1, h2, h3⟩ := h
  rcases h2.2 with ⟨hv, _⟩ | ⟨g', cap, cur, hv, _, hc, _⟩
  · unfold PV.sl slOf at hv
    rw [hg] at hv
    cases hv
  · have := slOf_some hv
    rw [hg] at this
    cases this
    exact (Array.getElem?_eq_some_iff.1 hc).1
theorem RowP.move {W W' : World} {X : Nat → Prop} {v : PV} {ws : List PV} (h : RowP W X v ws) (hm : ∀ g, X g → g < W.heap.size → W'.heap[g]? = W.heap[g]?) : RowP W' X v ws := by
  have hlt := fun g hg => h.lt (g := g) hg
  obtain ⟨h1, h2, h3⟩ := h
  refine ⟨h1, ⟨h2.1, ?_⟩, h3⟩
  rcases h2.2 with hv | ⟨g', cap, cur, hv, hb, hc, hr⟩
  · exact .inl hv
  · have hg := slOf_some hv
    exact .inr ⟨g', cap, cur, hv, hb, (hm g' (h3 g' hg) (hlt g' hg)).trans hc, hr⟩
theorem RowP.mono {W : World} {X Y : Nat → Prop} {v : PV} {ws : List PV} (h : RowP W X v ws) (hX : ∀ g, X g → g < W.heap.size → Y g) : RowP W Y v ws := ⟨h.1, h.2.1, fun g hg => hX g (h.2.2 g hg) (h.lt hg)⟩
theorem FV.move {W W' : World} {X : Nat → Prop} (hm : ∀ g, X g → g < W.heap.size → W'.heap[g]? = W.heap[g]?) : ∀ {t : Pt} {vs : List PV}, FV W X t vs → FV W' X t vs
  | .nil, _, h => h
  | .cons .., _, ⟨v, vs', h0, h1, h2, h3, h4, h5, ⟨ws, h6, h7⟩, h8⟩ => ⟨v, vs', h0, h1, h2, h3, h4, h5, ⟨ws, h6.move hm, FV.move hm h7⟩, FV.move hm h8⟩
theorem FV.mono {W : World} {X Y : Nat → Prop} (hX : ∀ g, X g → g < W.heap.size → Y g) : ∀ {t : Pt} {vs : List PV}, FV W X t vs → FV W Y t vs
  | .nil, _, h => h
  | .cons .., _, ⟨v, vs', h0, h1, h2, h3, h4, h5, ⟨ws, h6, h7⟩, h8⟩ => ⟨v, vs', h0, h1, h2, h3, h4, h5, ⟨ws, h6.mono hX, FV.mono hX h7⟩, FV.mono hX h8⟩
theorem FV.app {W : World} {X : Nat → Prop} : ∀ {t u : Pt} {vs us : List PV}, FV W X t vs → FV W X u us → FV W X (t.app u) (vs ++ us)
  | .nil, _, _, _, h, k => by
    have : _ = [] := h
    subst this
    exact k
  | .cons .., _, _, _, ⟨v, vs', h0, h1, h2, h3, h4, h5, h6, h8⟩, k => ⟨v, vs' ++ _, by rw [h0]; rfl, h1, h2, h3, h4, h5, h6, FV.app h8 k⟩
theorem FV.len {W : World} {X : Nat → Prop} : ∀ {t : Pt} {vs : List PV}, FV W X t vs → vs.length = t.len
  | .nil, _, h => by rw [show _ = [] from h]; rfl
  | .cons .., _, ⟨v, vs', h0, h1, h2, h3, h4, h5, h6, h8⟩ => by rw [h0, List.length_cons, FV.len h8]; rfl
/-- A leaf. -/
theorem FV.leaf (W : World) (X : Nat → Prop) (k : Int) (c : C4) (le mo : Int) (nu : Bool) : FV W X (.cons k c le mo nu .nil .nil) [⟨k, c, le, mo, nu, none, 0, 0⟩] := ⟨_, [], rfl, rfl, rfl, rfl, rfl, rfl, ⟨[], ⟨rfl, ⟨rfl, .inl ⟨rfl, rfl⟩⟩, fun g h => by cases h⟩, rfl⟩, rfl⟩
/-- The head's own words changed. -/
theorem FV.re {W : World} {X : Nat → Prop} {k : Int} {c : C4} {le mo : Int} {nu : Bool} {kids rest : Pt} {v : PV} {vs : List PV} (h : FV W X (.cons k c le mo nu kids rest) (v :: vs)) (k' : Int) (c' : C4) (le' mo' : Int) (nu' : Bool) : FV W X (.cons k' c' le' mo' nu' kids rest) (⟨k', c', le', mo', nu', v.b, v.n, v.cap⟩ :: vs) := by
  obtain ⟨v2, vs', h0, h1, h2, h3, h4, h5, ⟨ws, h6, h7⟩, h8⟩ := h
  cases h0
  exact ⟨_, vs, rfl, rfl, rfl, rfl, rfl, rfl, ⟨ws, ⟨h6.1, h6.2.1, h6.2.2⟩, h7⟩, h8⟩
theorem FV.head {W : World} {X : Nat → Prop} {k : Int} {c : C4} {le mo : Int} {nu : Bool} {kids rest : Pt} {v : PV} {vs : List PV} (h : FV W X (.cons k c le mo nu kids rest) (v :: vs)) : v.k = k ∧ v.c = c ∧ v.le = le ∧ v.mo = mo ∧ v.nu = nu := by
  obtain ⟨v2, vs', h0, h1, h2, h3, h4, h5, h6, h8⟩ := h
  cases h0
  exact ⟨h1, h2, h3, h4, h5⟩
/-- A variable's block. -/
def VAt (W : World) (b : Nat) (T : TypeId) (cs : Array Value) : Prop := W.heap[b]? = some (.cells cs T (0, 0))
theorem VAt.move {W W' : World} {b : Nat} {T : TypeId} {cs : Array Value} (h : VAt W b T cs) (hb : Below W.heap.size W W') : VAt W' b T cs := (hb.block b (blk_lt h)).trans h
theorem VAt.mv {W W' : World} {b g : Nat} {T : TypeId} {cs : Array Value} (h : VAt W b T cs) (hm : Mv g W W') (hne : b ≠ g) : VAt W' b T cs := (hm.block b (blk_lt h) hne).trans h
/-- What the reader's call has: the reader, variables of its own, trees. -/
structure QT (g : Nat) (w W : World) (s : ByteArray) (p : Nat) (fold : Bool) (L : List (Nat × TypeId × Array Value)) (R : List (Pt × List PV)) : Prop where
  lg : g < w.heap.size
  rs : RS W g s p fold
  mv : Mv g w W
  at_ : ∀ (i b : Nat) (T : TypeId) (cs : Array Value), L[i]? = some (b, T, cs) → w.heap.size ≤ b ∧ VAt W b T cs
  nd : (L.map Prod.fst).Nodup
  tr : ∀ (i : Nat) (t : Pt) (vs : List PV), R[i]? = some (t, vs) → FV W (fun b => w.heap.size ≤ b ∧ b ∉ L.map Prod.fst) t vs
section
variable {g p q : Nat} {w W W' : World} {s : ByteArray} {fold : Bool} {L : List (Nat × TypeId × Array Value)} {R : List (Pt × List PV)}
theorem QT.nil (h : RS w g s p fold) : QT g w w s p fold [] [] := ⟨blk_lt h, h, Mv.refl _ _, fun i b T c h => by simp at h, by simp, fun i t vs h => by simp at h⟩
theorem QT.call (h : QT g w W s p fold L R) (hb : Below W.heap.size W W') : QT g w W' s p fold L R := ⟨h.lg, h.rs.move hb, h.mv.trans (Mv.of_below hb), fun i b T c hi => ⟨(h.at_ i b T c hi).1, (h.at_ i b T c hi).2.move hb⟩, h.nd, fun i t vs hi => (h.tr i t vs hi).move fun g _ hg => hb.block g hg⟩
theorem QT.rd (h : QT g w W s p fold L R) (hr : RS W' g s q fold) (hm : Mv g W W') : QT g w W' s q fold L R := ⟨h.lg, hr, h.mv.trans hm, fun i b T c hi => ⟨(h.at_ i b T c hi).1, (h.at_ i b T c hi).2.mv hm (by have := (h.at_ i b T c hi).1; have := h.lg; omega)⟩, h.nd, fun i t vs hi => (h.tr i t vs hi).move fun k hk hg => hm.block k hg (by have := hk.1; have := h.lg; omega)⟩
theorem QT.at_p (h : QT g w W s p fold L R) (q : Nat) : QT g w (W.setCell ⟨g, 1, none⟩ (.int .i64 (q : Int))) s q fold L R := h.rd (h.rs.set q) ((Mv.refl g W).set 1 _)
theorem QT.set (h : QT g w W s p fold L R) (i : Nat) {b : Nat} {T : TypeId} {c c' : Array Value} (hi : L[i]? = some (b, T, c)) (hc : VAt W' b T c') (hm : Mv b W W') : QT g w W' s p fold (L.set i (b, T, c')) R := by
  have hb := (h.at_ i b T c hi).1
  have hlt := (List.getElem?_eq_some_iff.1 hi).1
  have e : (L.set i (b, T, c')).map Prod.fst = L.map Prod.fst := by
    apply List.ext_getElem?
    intro j
    rw [List.getElem?_map, List.getElem?_map, List.getElem?_set]
    by_cases e : i = j
    · subst e
      rw [if_pos rfl, if_pos hlt, hi]
      rfl
    · rw [if_neg e]
  refine ⟨h.lg, h.rs.mv hm (by have := h.lg; omega), h.mv.own hm hb, fun j b2 T2 c2 hj => ?_, by rw [e]; exact h.nd, fun j t vs hj => ?_⟩
  · rw [List.getElem?_set] at hj
    by_cases e : i = j
    · subst e
      rw [if_pos rfl, if_pos hlt] at hj
      cases hj
      exact ⟨hb, hc⟩
    · rw [if_neg e] at hj
      obtain ⟨h1, h2⟩ := h.at_ j b2 T2 c2 hj
      refine ⟨h1, h2.mv hm (fun e2 => e ?_)⟩
      have hn := List.pairwise_iff_getElem.1 h.nd
      have hjl := (List.getElem?_eq_some_iff.1 hj).1
      have e3 : (L.map Prod.fst)[i]'(by simpa using hlt) = b := by simp [(List.getElem?_eq_some_iff.1 hi).2]
      have e4 : (L.map Prod.fst)[j]'(by simpa using hjl) = b2 := by simp [(List.getElem?_eq_some_iff.1 hj).2]
      rcases Nat.lt_trichotomy i j with h6 | h6 | h6
      · exact absurd (by rw [e3, e4, e2]) (hn i j (by simpa using hlt) (by simpa using hjl) h6)
      · exact h6
      · exact absurd (by rw [e3, e4, e2]) (hn j i (by simpa using hjl) (by simpa using hlt) h6)
  · rw [e]
    refine (h.tr j t vs hj).move fun k hk hg => hm.block k hg (fun e2 => hk.2 ?_)
    rw [e2]
    exact List.mem_map.2 ⟨_, List.mem_of_getElem? hi, rfl⟩
theorem QT.lt (h : QT g w W s p fold L R) {b : Nat} (hb : b ∈ L.map Prod.fst) : b < W.heap.size := by
  obtain ⟨⟨b2, T, c2⟩, hm2, rfl⟩ := List.mem_map.1 hb
  obtain ⟨i, hi, he⟩ := List.mem_iff_getElem.1 hm2
  exact blk_lt (h.at_ i b2 T c2 (by rw [List.getElem?_eq_getElem hi, he])).2
theorem QT.push (h : QT g w W s p fold L R) {b : Nat} {T : TypeId} {c : Array Value} (hb : b = W.heap.size) (hc : VAt W' b T c) (hm : Below W.heap.size W W') : QT g w W' s p fold (L ++ [(b, T, c)]) R := by
  have h' := h.call hm
  refine ⟨h'.lg, h'.rs, h'.mv, fun i b2 T2 c2 hi => ?_, ?_, fun i t vs hi => (((h.tr i t vs hi).mono (Y := fun k => w.heap.size ≤ k ∧ k ∉ (L ++ [(b, T, c)]).map Prod.fst) fun k hk hl => ⟨hk.1, fun hmem => ?_⟩)).move fun k _ hk => hm.block k hk⟩
  · by_cases e : i < L.length
    · rw [List.getElem?_append_left e] at hi
      exact h'.at_ i b2 T2 c2 hi
    · rw [List.getElem?_append_right (by omega)] at hi
      have e0 : i - L.length = 0 := by
        have := (List.getElem?_eq_some_iff.1 hi).1
        simp at this
        omega
      rw [e0] at hi
      cases hi
      exact ⟨by rw [hb]; exact h.mv.size, hc⟩
  · rw [List.map_append, List.nodup_append]
    refine ⟨h.nd, by simp, fun x hx y hy => ?_⟩
    have h3 := h.lt hx
    have hy2 : y = b := by simpa using hy
    rw [hy2, hb]
    exact Nat.ne_of_lt h3
  · rw [List.map_append] at hmem
    rcases List.mem_append.1 hmem with hmem | hmem
    · exact hk.2 hmem
    · have : k = b := by simpa using hmem
      omega
/-- A tree that a call brings. -/
theorem QT.tree (h : QT g w W s p fold L R) {t : Pt} {vs : List PV} (hr : RS W' g s q fold) (hm : Mv g W W') (ht : FV W' (fun b => W.heap.size ≤ b) t vs) : QT g w W' s q fold L (R ++ [(t, vs)]) := by
  have h' := h.rd hr hm
  refine ⟨h'.lg, h'.rs, h'.mv, h'.at_, h'.nd, fun i t2 vs2 hi => ?_⟩
  by_cases e : i < R.length
  · rw [List.getElem?_append_left e] at hi
    exact h'.tr i t2 vs2 hi
  · rw [List.getElem?_append_right (by omega)] at hi
    have e0 : i - R.length = 0 := by
      have := (List.getElem?_eq_some_iff.1 hi).1
      simp at this
      omega
    rw [e0] at hi
    cases hi
    exact ht.mono fun k hk _ => ⟨Nat.le_trans h.mv.size hk, fun hmem => by have := h.lt hmem; omega⟩
/-- A tree that is reckoned of those that lie there. -/
theorem QT.more (h : QT g w W s p fold L R) {t : Pt} {vs : List PV} (ht : FV W (fun b => w.heap.size ≤ b ∧ b ∉ L.map Prod.fst) t vs) : QT g w W s p fold L [(t, vs)] := ⟨h.lg, h.rs, h.mv, h.at_, h.nd, fun i t2 vs2 hi => by
  cases i with
  | zero => cases hi; exact ht
  | succ i => simp at hi⟩
theorem QT.take (h : QT g w W s p fold L R) (n : Nat) : QT g w W s p fold (L.take n) R := ⟨h.lg, h.rs, h.mv, fun i b T c hi => h.at_ i b T c (by
    rw [List.getElem?_take] at hi
    split at hi
    · exact hi
    · cases hi), by rw [List.map_take]; exact h.nd.sublist (List.take_sublist _ _), fun i t vs hi => (h.tr i t vs hi).mono fun k hk _ => ⟨hk.1, fun hmem => hk.2 (by rw [List.map_take] at hmem; exact List.mem_of_mem_take hmem)⟩⟩
/-- A row of one part, made anew. -/
theorem QT.row (h : QT g w W s p fold L R) {t : Pt} {v : PV} (ht : FV W (fun b => w.heap.size ≤ b ∧ b ∉ L.map Prod.fst) t [v]) (hW : W' = W.alloc (.cells v.cells 67)) (k : Int) (c : C4) (le mo : Int) (nu : Bool) : QT g w W' s p fold L [(.cons k c le mo nu t .nil, [⟨k, c, le, mo, nu, some W.heap.size, 1, 1⟩])] := by
  have hb : Below W.heap.size W W' := by rw [hW]; exact below_alloc (Below.refl _ _) _
  have h' := h.call hb
  refine h'.more ⟨_, [], rfl, rfl, rfl, rfl, rfl, rfl, ⟨[v], ⟨rfl, ⟨rfl, .inr ⟨W.heap.size, 1, v.cells, rfl, Nat.zero_le _, ?_, Nat.le_refl _, by decide, rfl, rfl⟩⟩, fun g hg => ?_⟩, ht.move fun k _ hk => hb.block k hk⟩, rfl⟩
  · rw [hW]; exact blk_new W _
  · cases hg
    exact ⟨h.mv.size, fun hmem => by have := h.lt hmem; omega⟩
theorem QT.c0 (h : QT g w W s p fold L R) : W.cell? ⟨g, 0, none⟩ = some (.string s) := (blk_cell h.rs 0).trans rfl
theorem QT.c1 (h : QT g w W s p fold L R) : W.cell? ⟨g, 1, none⟩ = some (.int .i64 (p : Int)) := (blk_cell h.rs 1).trans rfl
theorem QT.f1 (h : QT g w W s p fold L R) : W.frozen? ⟨g, 1, none⟩ = false := blk_frozen h.rs 1
end
/-- What a call that reads a part leaves. -/
def TPost (g : Nat) (s : ByteArray) (fold : Bool) (W : World) (r : Rs Pt) (e : Ending) (w' : World) : Prop := match r with
  | .ok t q => ∃ v : PV, e = .returned (.agg v.cells) ∧ FV w' (fun b => W.heap.size ≤ b) t [v] ∧ RS w' g s q fold ∧ Mv g W w'
  | .bad n => Bad n e ∧ Mv g W w'
section
variable {g q n : Nat} {s : ByteArray} {fold : Bool} {W w' : World} {r : Rs Pt} {t : Pt} {v : PV} {e : Ending}
theorem TPost.good (h : r = .ok t q) (h0 : FV w' (fun b => W.heap.size ≤ b) t [v]) (h1 : RS w' g s q fold) (h2 : Mv g W w') : TPost g s fold W r (.returned (.agg v.cells)) w' := by subst h; exact ⟨v, rfl, h0, h1, h2⟩
theorem TPost.bad (h : r = .bad n) (h2 : Mv g W w') : TPost g s fold W r (.panicked [{ v := .iface 106 (.int .i64 (n : Int)), recovered := false }]) w' := by subst h; exact ⟨rfl, h2⟩
theorem TPost.ok_elim (h : TPost g s fold W r e w') (hr : r = .ok t q) : ∃ v : PV, e = .returned (.agg v.cells) ∧ FV w' (fun b => W.heap.size ≤ b) t [v] ∧ RS w' g s q fold ∧ Mv g W w' := by subst hr; exact h
theorem TPost.bad_elim (h : TPost g s fold W r e w') (hr : r = .bad n) : Bad n e ∧ Mv g W w' := by subst hr; exact h
theorem QT.post {p : Nat} {L : List (Nat × TypeId × Array Value)} {R : List (Pt × List PV)} (h : QT g W w' s p fold L R) (i : Nat) (hi : R[i]? = some (t, [v])) (hr : r = .ok t p) : TPost g s fold W r (.returned (.agg v.cells)) w' := TPost.good hr ((h.tr i t [v] hi).mono fun k hk _ => hk.1) h.rs h.mv
end
/-! The operations on a part's variable. -/
section
variable {ops : Array Oper} {rest : List Oper} {o : Oper} {a : Act} {Q : Exit → Act → World → Prop} {w : World}
theorem setRow_mv (w : World) (g : Nat) (cs : Array Value) : Mv g w (w.setRow g cs) := ⟨rfl, rfl, rfl, by simp, fun k _ hk => setRow_other w g k cs hk⟩
theorem load_pt (hg : o.guard = none) (p : Tmp) (hop : o.op = .load 67 (.tmp p)) (g : Nat) (hp : a.eval (.tmp p) = .pointer (some ⟨g, 0, none⟩)) (v : PV) (h : VAt w g 67 v.cells) (hK : wpList Try.prog ops Q rest (a.put o.dst (.agg v.cells)) w) : wpList Try.prog ops Q (o :: rest) a w :=
  wpList_load_row hg 67 (.tmp p) hop g hp 67 v.cells (0, 0) _ h Try.underlying67 rfl (by kernel_rfl) hK
theorem store_pt (hg : o.guard = none) (p : Tmp) (x : Operand) (hop : o.op = .store 67 (.tmp p) x) (g : Nat) (hp : a.eval (.tmp p) = .pointer (some ⟨g, 0, none⟩)) (z v : PV) (hv : a.eval x = .agg v.cells) (h : VAt w g 67 z.cells) (hK : ∀ w', VAt w' g 67 v.cells → Mv g w w' → wpList Try.prog ops Q rest (a.put o.dst undef) w') : wpList Try.prog ops Q (o :: rest) a w :=
  wpList_store_row hg 67 (.tmp p) x hop g v.cells hp hv 67 z.cells h (by kernel_rfl) rfl (by simp [PV.cells, PV.sl, slOf, Value.oneCell']) (hK _ (setRow_heap w g z.cells v.cells 67 (0, 0) h) (setRow_mv w g v.cells))
theorem alloc_pt (hg : o.guard = none) {d : Tmp} (hd : o.dst = some d) (hop : o.op = .alloc 67) (hK : ∀ g w', g = w.heap.size → VAt w' g 67 PV.nil.cells → Below w.heap.size w w' → wpList Try.prog ops Q rest (a.put o.dst (.pointer (some ⟨g, 0, none⟩))) w') : wpList Try.prog ops Q (o :: rest) a w := by
  refine box_event hg hd (cs := PV.nil.cells) (t := 67) ?_ (fun g hgs w1 hb hbl => hK g w1 hgs hb hbl)
  have hrun : (Instr.alloc 67 true (.tuple #[])).run Try.prog w = .ok (.pointer (some ⟨w.heap.size, 0, none⟩)) (w.alloc (.cells PV.nil.cells 67)) := by kernel_rfl
  simp [execOp, hop, Result.andThen, hrun]
end
theorem ptSize (W : World) : (sizeOf 67).run Try.prog W = .ok 9 W := by kernel_rfl
theorem ptAgg (W : World) : (isAgg 67).run Try.prog W = .ok true W := by kernel_rfl
theorem load9 {W : World} {g : Nat} {v : PV} (h : VAt W g 67 v.cells) : (loadVar 67 ⟨g, 0, none⟩).run Try.prog W = .ok (.agg v.cells) W := by
  have c := fun (j : Nat) (x : Value) (hj : v.cells[j]? = some x) => cell_of_row W g j _ 67 (0, 0) h |>.trans hj
  have c0 := c 0 _ rfl
  have c1 := c 1 _ rfl
  have c2 := c 2 _ rfl
  have c3 := c 3 _ rfl
  have c4 := c 4 _ rfl
  have c5 := c 5 _ rfl
  have c6 := c 6 _ rfl
  have c7 := c 7 _ rfl
  have c8 := c 8 _ rfl
  simp [loadVar, Sem.run_bind, ptAgg W, ptSize W, loadCells, c0, c1, c2, c3, c4, c5, c6, c7, c8, go_sem]
  rfl
theorem results_pt {fn : Func} {p : Tmp} (h : fn.results = #[.cell p 67]) (tmps : Array Value) (W : World) {g : Nat} {v : PV} (hp : tmps.getD p undef = .pointer (some ⟨g, 0, none⟩)) (hc : VAt W g 67 v.cells) : (results fn tmps).run Try.prog W = .ok (.agg v.cells) W := by
  have hp' : tmps[p]?.getD undef = .pointer (some ⟨g, 0, none⟩) := by simpa using hp
  have hl := load9 hc
  simp [results, h, hp', asAddr, hl]
end Go.Proofs.Ytclgnefeankbgaa.M
namespace Go.Proofs.Ytclgnefeankbgaa.M
open Go Go.RowKit Go.Proofs.YtclgnefeankbgaaW.PrintWords Go.Proofs.YtclgnefeankbgaaW.PrintLast Go.Proofs.YtclgnefeankbgaaW.PrintMore Hand
attribute [local go_sem] Oper.semAt_some max2_int min2_int max_two min_two max_three min_three max_four min_four
set_option linter.unusedVariables false
set_option linter.unusedSimpArgs false
theorem Mv2.refl (g h : Nat) (W : World) : Mv2 g h W W := ⟨rfl, rfl, rfl, Nat.le_refl _, fun _ _ _ _ => rfl⟩
theorem Mv2.left {g h : Nat} {A B C : World} (k : Mv2 g h A B) (m : Mv g B C) : Mv2 g h A C := ⟨m.os.trans k.os, m.tape.trans k.tape, m.output.trans k.output, Nat.le_trans k.size m.size, fun i hi h1 h2 => (m.block i (Nat.lt_of_lt_of_le hi k.size) h1).trans (k.block i hi h1 h2)⟩
theorem Mv2.right {g h : Nat} {A B C : World} (k : Mv2 g h A B) (m : Mv h B C) : Mv2 g h A C := ⟨m.os.trans k.os, m.tape.trans k.tape, m.output.trans k.output, Nat.le_trans k.size m.size, fun i hi h1 h2 => (m.block i (Nat.lt_of_lt_of_le hi k.size) h2).trans (k.block i hi h1 h2)⟩
/-- The reader and the caller's part. -/
structure CS (g x : Nat) (w W : World) (s : ByteArray) (p : Nat) (fold : Bool) (v : PV) : Prop where
  rs : RS W g s p fold
  va : VAt W x 67 v.cells
  ne : x ≠ g
  mv : Mv2 g x w W
section
variable {g x p q : Nat} {w W W' : World} {s : ByteArray} {fold : Bool} {v : PV}
theorem CS.rd (h : CS g x w W s p fold v) (hr : RS W' g s q fold) (hm : Mv g W W') : CS g x w W' s q fold v := ⟨hr, h.va.mv hm h.ne, h.ne, h.mv.left hm⟩
theorem CS.call (h : CS g x w W s p fold v) (hb : Below W.heap.size W W') : CS g x w W' s p fold v := h.rd (h.rs.move hb) (Mv.of_below hb)
theorem CS.cell (h : CS g x w W s p fold v) (i : Nat) (u : Value) (v' : PV) (he : v'.cells = v.cells.set! i u) : CS g x w (W.setCell ⟨x, i, none⟩ u) s p fold v' := ⟨h.rs.mv ((Mv.refl x W).set i u) (Ne.symm h.ne), by
  unfold VAt
  rw [he]
  exact blk_set h.va i u, h.ne, h.mv.right ((Mv.refl x W).set i u)⟩
theorem CS.le (h : CS g x w W s p fold v) (n : Int) : CS g x w (W.setCell ⟨x, 5, none⟩ (.int .i64 n)) s p fold { v with le := n } := h.cell 5 _ _ rfl
theorem CS.mo (h : CS g x w W s p fold v) (n : Int) : CS g x w (W.setCell ⟨x, 6, none⟩ (.int .i64 n)) s p fold { v with mo := n } := h.cell 6 _ _ rfl
theorem CS.nu (h : CS g x w W s p fold v) (n : Bool) : CS g x w (W.setCell ⟨x, 7, none⟩ (.bool n)) s p fold { v with nu := n } := h.cell 7 _ _ rfl
theorem CS.c5 (h : CS g x w W s p fold v) : W.cell? ⟨x, 5, none⟩ = some (.int .i64 v.le) := (blk_cell h.va 5).trans rfl
theorem CS.c6 (h : CS g x w W s p fold v) : W.cell? ⟨x, 6, none⟩ = some (.int .i64 v.mo) := (blk_cell h.va 6).trans rfl
theorem CS.c7 (h : CS g x w W s p fold v) : W.cell? ⟨x, 7, none⟩ = some (.bool v.nu) := (blk_cell h.va 7).trans rfl
theorem CS.fz (h : CS g x w W s p fold v) (i : Nat) : W.frozen? ⟨x, i, none⟩ = false := blk_frozen h.va i
theorem CS.p1 (h : CS g x w W s p fold v) : W.cell? ⟨g, 1, none⟩ = some (.int .i64 (p : Int)) := (blk_cell h.rs 1).trans rfl
end
theorem numberR_ok {s : ByteArray} {least n : Int} {p q : Nat} (hp : p ≤ s.size) (h : numberR s least p = .ok n q) : 0 ≤ n ∧ n ≤ 60 ∧ p < q ∧ q ≤ s.size ∧ least ≤ n := by
  unfold numberR at h
  by_cases c : (numP s p).2 = p ∨ (numP s p).1 < least ∨ 60 < (numP s p).1
  · rw [if_pos c] at h; cases h
  rw [if_neg c] at h
  have hr := numL_range s (s.size - p) p 0 (by omega) (by omega)
  unfold numP at h c
  cases h
  omega
/-- The numbers of a repetition, from behind its bracket on. -/
def countR (s : ByteArray) (p : Nat) : Rs (Int × Int) :=
  match numberR s 0 p with
  | .bad n => .bad n
  | .ok le q =>
    if takeP s q 44 = true then
      if seeP s (q + 1) = 125 then .ok (le, -1) (q + 1 + 1)
      else match numberR s le (q + 1) with
        | .bad n => .bad n
        | .ok mo q2 => if takeP s q2 125 = true then .ok (le, mo) (q2 + 1) else .bad q2
    else if takeP s q 125 = true then .ok (le, le) (q + 1) else .bad q
/-- What a call that changes the caller's part leaves. -/
def CPost (g x : Nat) (s : ByteArray) (fold : Bool) (W : World) (v : PV) (r : Rs (Int × Int)) (e : Ending) (w' : World) : Prop := match r with
  | .ok (le, mo) q => e = .returned (.tuple #[]) ∧ CS g x W w' s q fold { v with le := le, mo := mo, nu := true }
  | .bad n => Bad n e ∧ Mv2 g x W w'
section
variable {g x q n : Nat} {s : ByteArray} {fold : Bool} {W w' : World} {v : PV} {r : Rs (Int × Int)} {le mo : Int} {e : Ending}
theorem CPost.good (h : r = .ok (le, mo) q) (h1 : CS g x W w' s q fold { v with le := le, mo := mo, nu := true }) : CPost g x s fold W v r (.returned (.tuple #[])) w' := by subst h; exact ⟨rfl, h1⟩
theorem CPost.bad (h : r = .bad n) (h2 : Mv2 g x W w') : CPost g x s fold W v r (.panicked [{ v := .iface 106 (.int .i64 (n : Int)), recovered := false }]) w' := by subst h; exact ⟨rfl, h2⟩
theorem CPost.ok_elim (h : CPost g x s fold W v r e w') (hr : r = .ok (le, mo) q) : e = .returned (.tuple #[]) ∧ CS g x W w' s q fold { v with le := le, mo := mo, nu := true } := by subst hr; exact h
theorem CPost.bad_elim (h : CPost g x s fold W v r e w') (hr : r = .bad n) : Bad n e ∧ Mv2 g x W w' := by subst hr; exact h
end
set_option maxHeartbeats 8000000 in
set_option maxRecDepth 100000 in
theorem count.calls (g x p : Nat) (s : ByteArray) (fold : Bool) (v : PV) (W : World) (h : RS W g s p fold) (hx : VAt W x 67 v.cells) (hne : x ≠ g) (hs : s.size ≤ 200) (hp : p ≤ s.size) :
    Calls Try.prog 74 #[.pointer (some ⟨g, 0, none⟩), .pointer (some ⟨x, 0, none⟩)] W fun e w' => CPost g x s fold W v (countR s p) e w' := by
  have HQ : Aside0 (CS g x W W s p fold v) := ⟨⟨h, hx, hne, Mv2.refl _ _ _⟩⟩
  obtain ⟨r, hr⟩ : ∃ r, countR s p = r := ⟨_, rfl⟩
  rw [hr]
  unfold countR at hr
  have HNG : Aside0 (∀ W' q le n q2, q ≤ s.size → RS W' g s q fold → numberR s le q = .ok n q2 → Calls Try.prog 87 #[.pointer (some ⟨g, 0, none⟩), .int .i64 le] W' fun e w' => e = .returned (.int .i64 n) ∧ RS w' g s q2 fold ∧ Mv g W' w') := ⟨fun W' q le n q2 h0 h1 h2 => (number.calls g q s fold le W' h1 hs h0).mono fun e w' h => h.ok_elim h2⟩
  have HNB : Aside0 (∀ W' q le n, q ≤ s.size → RS W' g s q fold → numberR s le q = .bad n → Calls Try.prog 87 #[.pointer (some ⟨g, 0, none⟩), .int .i64 le] W' fun e w' => Bad n e ∧ Mv g W' w') := ⟨fun W' q le n h0 h1 h2 => (number.calls g q s fold le W' h1 hs h0).mono fun e w' h => h.bad_elim h2⟩
  have HTK : Aside0 (∀ W' q b, RS W' g s q fold → takeP s q b = true → Calls Try.prog 66 #[.pointer (some ⟨g, 0, none⟩), .int .u8 b] W' fun e w' => e = .returned (.bool true) ∧ RS w' g s (q + 1) fold ∧ Mv g W' w') := ⟨fun W' q b h1 h2 => by have := take.calls g q s fold b W' h1 hs; rw [h2, if_pos rfl] at this; exact this⟩
  have HTN : Aside0 (∀ W' q b, RS W' g s q fold → takeP s q b = false → Calls Try.prog 66 #[.pointer (some ⟨g, 0, none⟩), .int .u8 b] W' fun e w' => e = .returned (.bool false) ∧ RS w' g s q fold ∧ Mv g W' w') := ⟨fun W' q b h1 h2 => by have := take.calls g q s fold b W' h1 hs; rw [h2, if_neg (by simp)] at this; exact this⟩
  have HWG : Aside0 (∀ W' q, RS W' g s q fold → takeP s q 125 = true → Calls Try.prog 83 #[.pointer (some ⟨g, 0, none⟩), .int .u8 125] W' fun e w' => e = .returned (.tuple #[]) ∧ RS w' g s (q + 1) fold ∧ Mv g W' w') := ⟨fun W' q h1 h2 => want.good g q s fold 125 W' h1 hs h2⟩
  have HWB : Aside0 (∀ W' q, RS W' g s q fold → takeP s q 125 = false → Calls Try.prog 83 #[.pointer (some ⟨g, 0, none⟩), .int .u8 125] W' fun e w' => Bad q e ∧ Mv g W' w') := ⟨fun W' q h1 h2 => want.bad g q s fold 125 W' h1 hs h2⟩
  have HP0 := Aside0.mk hp
  clear h hx hne
  cases hE : numberR s 0 p with
  | bad n =>
    rw [hE] at hr
    simp only at hr
    have HE := Aside0.mk hE
    have HR := Aside0.mk hr
    clear hr
    go_enter Try.func74, Try.ntmps74
    go_wp2_with (first
      | (go_at_call 87; (with_reducible refine (HNB.out _ p 0 n HP0.out HQ.out.rs HE.out).mono ?_); rintro e w9 ⟨he, hm1⟩; unfold Bad at he; subst he; have Y1 := Aside0.mk (HQ.out.mv.left hm1); clear hm1))
    exact ⟨rfl, CPost.bad HR.out.symm Y1.out⟩
  | ok le q =>
    rw [hE] at hr
    simp only at hr
    have HO := Aside0.mk (numberR_ok hp hE)
    have HE := Aside0.mk hE
    clear hE
    by_cases t1 : takeP s q 44 = true
    · rw [if_pos t1] at hr
      have HT := Aside0.mk t1
      have HQ1 := Aside0.mk (takeP_lt t1)
      clear t1
      obtain ⟨q1, hq1⟩ : ∃ q1, q + 1 = q1 := ⟨_, rfl⟩
      rw [hq1] at hr
      have HTK1 : Aside0 (∀ W', RS W' g s q fold → Calls Try.prog 66 #[.pointer (some ⟨g, 0, none⟩), .int .u8 44] W' fun e w' => e = .returned (.bool true) ∧ RS w' g s q1 fold ∧ Mv g W' w') := ⟨fun W' h => by rw [← hq1]; exact HTK.out W' q 44 h HT.out⟩
      have HQ2 : Aside0 (q1 ≤ s.size) := ⟨by have := HQ1.out; omega⟩
      obtain ⟨b, hb⟩ : ∃ b, seeP s q1 = b := ⟨_, rfl⟩
      rw [hb] at hr
      have HB := Aside0.mk hb
      clear hq1
      by_cases d : b = 125
      · rw [if_pos d] at hr
        have e1 : (b == 125) = true := beq_iff_eq.2 d
        have e2 : (b != 125) = false := by simp [d]
        have HT2 : Aside0 (takeP s q1 125 = true) := ⟨by
          have hlt : q1 < s.size := seeP_lt (by rw [hb, d]; decide)
          unfold seeP at hb
          rw [if_pos hlt] at hb
          exact decide_eq_true ⟨hlt, hb.trans d⟩⟩
        clear hb d
        have HR := Aside0.mk hr
        clear hr
        go_enter Try.func74, Try.ntmps74
        go_wp2_with (first
          | (go_at_call 83; (with_reducible refine (HWG.out _ q1 Y4.out.rs HT2.out).mono ?_); rintro e w9 ⟨rfl, hr1, hm1⟩; have Y5 := Aside0.mk (Y4.out.rd hr1 hm1); have z5_5 := Y5.out.c5; have z6_5 := Y5.out.c6; have z7_5 := Y5.out.c7; have y5_5 := Y5.out.fz 5; have y6_5 := Y5.out.fz 6; have y7_5 := Y5.out.fz 7; clear hr1 hm1)
          | (go_at_call 79; (with_reducible refine (see.calls g q1 s fold _ (Y3.out.mo (-1)).rs).mono ?_); rintro e w9 ⟨rfl, hb⟩; have Y4 := Aside0.mk ((Y3.out.mo (-1)).call hb); have z5_4 := Y4.out.c5; have z6_4 := Y4.out.c6; have z7_4 := Y4.out.c7; have y5_4 := Y4.out.fz 5; have y6_4 := Y4.out.fz 6; have y7_4 := Y4.out.fz 7; clear hb; have hv2 := HB.out; rw [hv2]; clear hv2)
          | (go_at_call 66; (with_reducible refine (HTK1.out _ (((Y2.out.le le).nu true).mo le).rs).mono ?_); rintro e w9 ⟨rfl, hr1, hm1⟩; have Y3 := Aside0.mk ((((Y2.out.le le).nu true).mo le).rd hr1 hm1); have z5_3 := Y3.out.c5; have z6_3 := Y3.out.c6; have z7_3 := Y3.out.c7; have y5_3 := Y3.out.fz 5; have y6_3 := Y3.out.fz 6; have y7_3 := Y3.out.fz 7; clear hr1 hm1)
          | (go_at_call 87; (with_reducible refine (HNG.out _ p 0 le q HP0.out HQ.out.rs HE.out).mono ?_); rintro e w9 ⟨rfl, hr1, hm1⟩; have Y2 := Aside0.mk (HQ.out.rd hr1 hm1); have z5_2 := Y2.out.c5; have z6_2 := Y2.out.c6; have z7_2 := Y2.out.c7; have y5_2 := Y2.out.fz 5; have y6_2 := Y2.out.fz 6; have y7_2 := Y2.out.fz 7; clear hr1 hm1))
        go_end0
        exact CPost.good HR.out.symm Y5.out
      rw [if_neg d] at hr
      have e1 : (b == 125) = false := beq_eq_false_iff_ne.2 d
      have e2 : (b != 125) = true := by simp [d]
      clear hb d
      cases hE2 : numberR s le q1 with
      | bad n =>
        rw [hE2] at hr
        simp only at hr
        have HE2 := Aside0.mk hE2
        clear hE2
        have HR := Aside0.mk hr
        clear hr
        go_enter Try.func74, Try.ntmps74
        go_wp2_with (first
          | (go_at_call 87; (with_reducible refine (HNB.out _ q1 le n HQ2.out Y8.out.rs HE2.out).mono ?_); rintro e w9 ⟨he, hm1⟩; unfold Bad at he; subst he; have Y9 := Aside0.mk (Y8.out.mv.left hm1); clear hm1)
          | (go_at_call 79; (with_reducible refine (see.calls g q1 s fold _ (Y7.out.mo (-1)).rs).mono ?_); rintro e w9 ⟨rfl, hb⟩; have Y8 := Aside0.mk ((Y7.out.mo (-1)).call hb); have z5_8 := Y8.out.c5; have z6_8 := Y8.out.c6; have z7_8 := Y8.out.c7; have y5_8 := Y8.out.fz 5; have y6_8 := Y8.out.fz 6; have y7_8 := Y8.out.fz 7; clear hb; have hv2 := HB.out; rw [hv2]; clear hv2)
          | (go_at_call 66; (with_reducible refine (HTK1.out _ (((Y6.out.le le).nu true).mo le).rs).mono ?_); rintro e w9 ⟨rfl, hr1, hm1⟩; have Y7 := Aside0.mk ((((Y6.out.le le).nu true).mo le).rd hr1 hm1); have z5_7 := Y7.out.c5; have z6_7 := Y7.out.c6; have z7_7 := Y7.out.c7; have y5_7 := Y7.out.fz 5; have y6_7 := Y7.out.fz 6; have y7_7 := Y7.out.fz 7; clear hr1 hm1)
          | (go_at_call 87; (with_reducible refine (HNG.out _ p 0 le q HP0.out HQ.out.rs HE.out).mono ?_); rintro e w9 ⟨rfl, hr1, hm1⟩; have Y6 := Aside0.mk (HQ.out.rd hr1 hm1); have z5_6 := Y6.out.c5; have z6_6 := Y6.out.c6; have z7_6 := Y6.out.c7; have y5_6 := Y6.out.fz 5; have y6_6 := Y6.out.fz 6; have y7_6 := Y6.out.fz 7; clear hr1 hm1))
        exact ⟨rfl, CPost.bad HR.out.symm Y9.out⟩
      | ok mo q2 =>
        rw [hE2] at hr
        simp only at hr
        have HE2 := Aside0.mk hE2
        clear hE2
        by_cases t3 : takeP s q2 125 = true
        · rw [if_pos t3] at hr
          have HT2 := Aside0.mk t3
          clear t3
          have HR := Aside0.mk hr
          clear hr
          go_enter Try.func74, Try.ntmps74
          go_wp2_with (first
            | (go_at_call 83; (with_reducible refine (HWG.out _ q2 (Y13.out.mo mo).rs HT2.out).mono ?_); rintro e w9 ⟨rfl, hr1, hm1⟩; have Y14 := Aside0.mk ((Y13.out.mo mo).rd hr1 hm1); have z5_14 := Y14.out.c5; have z6_14 := Y14.out.c6; have z7_14 := Y14.out.c7; have y5_14 := Y14.out.fz 5; have y6_14 := Y14.out.fz 6; have y7_14 := Y14.out.fz 7; clear hr1 hm1)
            | (go_at_call 87; (with_reducible refine (HNG.out _ q1 le mo q2 HQ2.out Y12.out.rs HE2.out).mono ?_); rintro e w9 ⟨rfl, hr1, hm1⟩; have Y13 := Aside0.mk (Y12.out.rd hr1 hm1); have z5_13 := Y13.out.c5; have z6_13 := Y13.out.c6; have z7_13 := Y13.out.c7; have y5_13 := Y13.out.fz 5; have y6_13 := Y13.out.fz 6; have y7_13 := Y13.out.fz 7; clear hr1 hm1)
            | (go_at_call 79; (with_reducible refine (see.calls g q1 s fold _ (Y11.out.mo (-1)).rs).mono ?_); rintro e w9 ⟨rfl, hb⟩; have Y12 := Aside0.mk ((Y11.out.mo (-1)).call hb); have z5_12 := Y12.out.c5; have z6_12 := Y12.out.c6; have z7_12 := Y12.out.c7; have y5_12 := Y12.out.fz 5; have y6_12 := Y12.out.fz 6; have y7_12 := Y12.out.fz 7; clear hb; have hv2 := HB.out; rw [hv2]; clear hv2)
            | (go_at_call 66; (with_reducible refine (HTK1.out _ (((Y10.out.le le).nu true).mo le).rs).mono ?_); rintro e w9 ⟨rfl, hr1, hm1⟩; have Y11 := Aside0.mk ((((Y10.out.le le).nu true).mo le).rd hr1 hm1); have z5_11 := Y11.out.c5; have z6_11 := Y11.out.c6; have z7_11 := Y11.out.c7; have y5_11 := Y11.out.fz 5; have y6_11 := Y11.out.fz 6; have y7_11 := Y11.out.fz 7; clear hr1 hm1)
            | (go_at_call 87; (with_reducible refine (HNG.out _ p 0 le q HP0.out HQ.out.rs HE.out).mono ?_); rintro e w9 ⟨rfl, hr1, hm1⟩; have Y10 := Aside0.mk (HQ.out.rd hr1 hm1); have z5_10 := Y10.out.c5; have z6_10 := Y10.out.c6; have z7_10 := Y10.out.c7; have y5_10 := Y10.out.fz 5; have y6_10 := Y10.out.fz 6; have y7_10 := Y10.out.fz 7; clear hr1 hm1))
          go_end0
          exact CPost.good HR.out.symm Y14.out
        rw [if_neg t3] at hr
        have HT2 := Aside0.mk (Bool.eq_false_iff.2 t3)
        clear t3
        have HR := Aside0.mk hr
        clear hr
        go_enter Try.func74, Try.ntmps74
        go_wp2_with (first
          | (go_at_call 83; (with_reducible refine (HWB.out _ q2 (Y18.out.mo mo).rs HT2.out).mono ?_); rintro e w9 ⟨he, hm1⟩; unfold Bad at he; subst he; have Y19 := Aside0.mk ((Y18.out.mo mo).mv.left hm1); clear hm1)
          | (go_at_call 87; (with_reducible refine (HNG.out _ q1 le mo q2 HQ2.out Y17.out.rs HE2.out).mono ?_); rintro e w9 ⟨rfl, hr1, hm1⟩; have Y18 := Aside0.mk (Y17.out.rd hr1 hm1); have z5_18 := Y18.out.c5; have z6_18 := Y18.out.c6; have z7_18 := Y18.out.c7; have y5_18 := Y18.out.fz 5; have y6_18 := Y18.out.fz 6; have y7_18 := Y18.out.fz 7; clear hr1 hm1)
          | (go_at_call 79; (with_reducible refine (see.calls g q1 s fold _ (Y16.out.mo (-1)).rs).mono ?_); rintro e w9 ⟨rfl, hb⟩; have Y17 := Aside0.mk ((Y16.out.mo (-1)).call hb); have z5_17 := Y17.out.c5; have z6_17 := Y17.out.c6; have z7_17 := Y17.out.c7; have y5_17 := Y17.out.fz 5; have y6_17 := Y17.out.fz 6; have y7_17 := Y17.out.fz 7; clear hb; have hv2 := HB.out; rw [hv2]; clear hv2)
          | (go_at_call 66; (with_reducible refine (HTK1.out _ (((Y15.out.le le).nu true).mo le).rs).mono ?_); rintro e w9 ⟨rfl, hr1, hm1⟩; have Y16 := Aside0.mk ((((Y15.out.le le).nu true).mo le).rd hr1 hm1); have z5_16 := Y16.out.c5; have z6_16 := Y16.out.c6; have z7_16 := Y16.out.c7; have y5_16 := Y16.out.fz 5; have y6_16 := Y16.out.fz 6; have y7_16 := Y16.out.fz 7; clear hr1 hm1)
          | (go_at_call 87; (with_reducible refine (HNG.out _ p 0 le q HP0.out HQ.out.rs HE.out).mono ?_); rintro e w9 ⟨rfl, hr1, hm1⟩; have Y15 := Aside0.mk (HQ.out.rd hr1 hm1); have z5_15 := Y15.out.c5; have z6_15 := Y15.out.c6; have z7_15 := Y15.out.c7; have y5_15 := Y15.out.fz 5; have y6_15 := Y15.out.fz 6; have y7_15 := Y15.out.fz 7; clear hr1 hm1))
        exact ⟨rfl, CPost.bad HR.out.symm Y19.out⟩
    rw [if_neg t1] at hr
    have HT := Aside0.mk (Bool.eq_false_iff.2 t1)
    clear t1
    by_cases t3 : takeP s q 125 = true
    · rw [if_pos t3] at hr
      have HT2 := Aside0.mk t3
      clear t3
      have HR := Aside0.mk hr
      clear hr
      go_enter Try.func74, Try.ntmps74
      go_wp2_with (first
        | (go_at_call 83; (with_reducible refine (HWG.out _ q Y21.out.rs HT2.out).mono ?_); rintro e w9 ⟨rfl, hr1, hm1⟩; have Y22 := Aside0.mk (Y21.out.rd hr1 hm1); have z5_22 := Y22.out.c5; have z6_22 := Y22.out.c6; have z7_22 := Y22.out.c7; have y5_22 := Y22.out.fz 5; have y6_22 := Y22.out.fz 6; have y7_22 := Y22.out.fz 7; clear hr1 hm1)
        | (go_at_call 66; (with_reducible refine (HTN.out _ q 44 (((Y20.out.le le).nu true).mo le).rs HT.out).mono ?_); rintro e w9 ⟨rfl, hr1, hm1⟩; have Y21 := Aside0.mk ((((Y20.out.le le).nu true).mo le).rd hr1 hm1); have z5_21 := Y21.out.c5; have z6_21 := Y21.out.c6; have z7_21 := Y21.out.c7; have y5_21 := Y21.out.fz 5; have y6_21 := Y21.out.fz 6; have y7_21 := Y21.out.fz 7; clear hr1 hm1)
        | (go_at_call 87; (with_reducible refine (HNG.out _ p 0 le q HP0.out HQ.out.rs HE.out).mono ?_); rintro e w9 ⟨rfl, hr1, hm1⟩; have Y20 := Aside0.mk (HQ.out.rd hr1 hm1); have z5_20 := Y20.out.c5; have z6_20 := Y20.out.c6; have z7_20 := Y20.out.c7; have y5_20 := Y20.out.fz 5; have y6_20 := Y20.out.fz 6; have y7_20 := Y20.out.fz 7; clear hr1 hm1))
      go_end0
      exact CPost.good HR.out.symm Y22.out
    rw [if_neg t3] at hr
    have HT2 := Aside0.mk (Bool.eq_false_iff.2 t3)
    clear t3
    have HR := Aside0.mk hr
    clear hr
    go_enter Try.func74, Try.ntmps74
    go_wp2_with (first
      | (go_at_call 83; (with_reducible refine (HWB.out _ q Y24.out.rs HT2.out).mono ?_); rintro e w9 ⟨he, hm1⟩; unfold Bad at he; subst he; have Y25 := Aside0.mk (Y24.out.mv.left hm1); clear hm1)
      | (go_at_call 66; (with_reducible refine (HTN.out _ q 44 (((Y23.out.le le).nu true).mo le).rs HT.out).mono ?_); rintro e w9 ⟨rfl, hr1, hm1⟩; have Y24 := Aside0.mk ((((Y23.out.le le).nu true).mo le).rd hr1 hm1); have z5_24 := Y24.out.c5; have z6_24 := Y24.out.c6; have z7_24 := Y24.out.c7; have y5_24 := Y24.out.fz 5; have y6_24 := Y24.out.fz 6; have y7_24 := Y24.out.fz 7; clear hr1 hm1)
      | (go_at_call 87; (with_reducible refine (HNG.out _ p 0 le q HP0.out HQ.out.rs HE.out).mono ?_); rintro e w9 ⟨rfl, hr1, hm1⟩; have Y23 := Aside0.mk (HQ.out.rd hr1 hm1); have z5_23 := Y23.out.c5; have z6_23 := Y23.out.c6; have z7_23 := Y23.out.c7; have y5_23 := Y23.out.fz 5; have y6_23 := Y23.out.fz 6; have y7_23 := Y23.out.fz 7; clear hr1 hm1))
    exact ⟨rfl, CPost.bad HR.out.symm Y25.out⟩
end Go.Proofs.Ytclgnefeankbgaa.M
