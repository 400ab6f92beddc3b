/- What a program of steps reaches: as a relation; ends tells it. No program in sight. Conditions: as each theorem says. -/
import Derived.Test.YtclgnefeankbgaaM38
namespace Go.Proofs.Ytclgnefeankbgaa.M
open Go Go.RowKit
set_option linter.unusedVariables false
set_option linter.unusedSimpArgs false
/-- On without a byte, at a place of so many bytes. -/
def stepE (xs : List ST) (N at_ k k' : Nat) : Prop := ∃ s, xs[k]? = some s ∧ ((s.op = 1 ∧ at_ = 0 ∧ k' = k + 1) ∨ (s.op = 2 ∧ at_ = N ∧ k' = k + 1) ∨ (s.op = 3 ∧ (k' = s.a.toNat ∨ k' = s.b.toNat)) ∨ (s.op = 4 ∧ k' = s.a.toNat))
inductive EP (xs : List ST) (N at_ : Nat) : Nat → Nat → Prop
  | refl (k : Nat) : EP xs N at_ k k
  | step {k k' k'' : Nat} (h : stepE xs N at_ k k') (h' : EP xs N at_ k' k'') : EP xs N at_ k k''
def InS (c : List Bool) (k : Nat) : Prop := c[k]? = some true
theorem InS.getD {c : List Bool} {k : Nat} : InS c k ↔ c.getD k false = true := by
  unfold InS
  rw [List.getD_eq_getElem?_getD]
  cases h : c[k]? with
  | none => simp
  | some b => simp
theorem InS.set {c : List Bool} {k u : Nat} (hk : k < c.length) : InS (c.set k true) u ↔ InS c u ∨ u = k := by
  unfold InS
  rw [List.getElem?_set]
  by_cases h : k = u
  · subst h
    rw [if_pos rfl, if_pos hk]
    simp
  · rw [if_neg h]
    constructor
    · intro h; exact .inl h
    · rintro (h2 | h2)
      · exact h2
      · exact absurd h2.symm h
/-- A search: from a set to a set, from places, and whether a match was found. -/
structure Dfs (xs : List ST) (N at_ : Nat) (c c' : List Bool) (A : Nat → Prop) (r : Bool) : Prop where
  mono : ∀ u, InS c u → InS c' u
  root : ∀ v, A v → v < xs.length → InS c' v
  reach : ∀ u, InS c' u → ¬ InS c u → u < xs.length ∧ ∃ v, A v ∧ EP xs N at_ v u
  closed : ∀ u w, InS c' u → ¬ InS c u → stepE xs N at_ u w → w < xs.length → InS c' w
  found : r = true ↔ ∃ u s, InS c' u ∧ ¬ InS c u ∧ xs[u]? = some s ∧ s.op = 5
section
variable {xs : List ST} {N at_ : Nat} {c c1 c2 c' : List Bool} {A B : Nat → Prop} {r r1 r2 : Bool}
theorem Dfs.nil (hA : ∀ v, A v → v < xs.length → InS c v) : Dfs xs N at_ c c A false :=
  ⟨fun u h => h, hA, fun u h h' => absurd h h', fun u w h h' => absurd h h', by
    constructor
    · intro h; cases h
    · rintro ⟨u, s, h, h', _⟩; exact absurd h h'⟩
theorem Dfs.seq (h1 : Dfs xs N at_ c c1 A r1) (h2 : Dfs xs N at_ c1 c2 B r2) : Dfs xs N at_ c c2 (fun v => A v ∨ B v) (r2 || r1) := by
  refine ⟨fun u h => h2.mono u (h1.mono u h), fun v hv hl => ?_, fun u h h' => ?_, fun u w h h' hs hl => ?_, ?_⟩
  · rcases hv with hv | hv
    · exact h2.mono v (h1.root v hv hl)
    · exact h2.root v hv hl
  · by_cases hu : InS c1 u
    · obtain ⟨a, v, b, d⟩ := h1.reach u hu h'
      exact ⟨a, v, .inl b, d⟩
    · obtain ⟨a, v, b, d⟩ := h2.reach u h hu
      exact ⟨a, v, .inr b, d⟩
  · by_cases hu : InS c1 u
    · exact h2.mono w (h1.closed u w hu h' hs hl)
    · exact h2.closed u w h hu hs hl
  · rw [Bool.or_eq_true, h1.found, h2.found]
    constructor
    · rintro (⟨u, s, a, b, d⟩ | ⟨u, s, a, b, d⟩)
      · exact ⟨u, s, a, fun h => b (h1.mono u h), d⟩
      · exact ⟨u, s, h2.mono u a, b, d⟩
    · rintro ⟨u, s, a, b, d⟩
      by_cases hu : InS c1 u
      · exact .inr ⟨u, s, hu, b, d⟩
      · exact .inl ⟨u, s, a, hu, d⟩
theorem Dfs.node {k : Nat} {s : ST} (hx : xs[k]? = some s) (hk : k < c.length) (hn : ¬ InS c k) (h1 : ∀ w, stepE xs N at_ k w → A w) (h2 : ∀ w, A w → stepE xs N at_ k w) (h : Dfs xs N at_ (c.set k true) c' A r) : Dfs xs N at_ c c' (fun v => v = k) (r || (s.op == 5)) := by
  have hkl : k < xs.length := (List.getElem?_eq_some_iff.1 hx).1
  have hin : InS c' k := h.mono k ((InS.set hk).2 (.inr rfl))
  refine ⟨fun u hu => h.mono u ((InS.set hk).2 (.inl hu)), fun v hv _ => by rw [hv]; exact hin, fun u hu hnu => ?_, fun u w hu hnu hs hl => ?_, ?_⟩
  · by_cases e : u = k
    · subst e; exact ⟨hkl, u, rfl, .refl u⟩
    · obtain ⟨a, v, b, d⟩ := h.reach u hu (fun hh => by
        rcases (InS.set hk).1 hh with hh | hh
        · exact hnu hh
        · exact e hh)
      exact ⟨a, k, rfl, .step (h2 v b) d⟩
  · by_cases e : u = k
    · subst e; exact h.root w (h1 w hs) hl
    · exact h.closed u w hu (fun hh => by
        rcases (InS.set hk).1 hh with hh | hh
        · exact hnu hh
        · exact e hh) hs hl
  · rw [Bool.or_eq_true, h.found]
    constructor
    · rintro (⟨u, s', a, b, d⟩ | h5)
      · exact ⟨u, s', a, fun hh => b ((InS.set hk).2 (.inl hh)), d⟩
      · exact ⟨k, s, hin, hn, hx, beq_iff_eq.1 h5⟩
    · rintro ⟨u, s', a, b, d1, d2⟩
      by_cases e : u = k
      · subst e
        rw [hx] at d1
        cases d1
        exact .inr (beq_iff_eq.2 d2)
      · exact .inl ⟨u, s', a, fun hh => by
          rcases (InS.set hk).1 hh with hh | hh
          · exact b hh
          · exact e hh, d1, d2⟩
theorem Dfs.congr (h : Dfs xs N at_ c c' A r) (hAB : ∀ v, A v ↔ B v) (hr : r = r1) : Dfs xs N at_ c c' B r1 := by
  subst hr
  exact ⟨h.mono, fun v hv => h.root v ((hAB v).2 hv), fun u a b => by obtain ⟨x, v, y, z⟩ := h.reach u a b; exact ⟨x, v, (hAB v).1 y, z⟩, h.closed, h.found⟩
theorem stepE_of {k : Nat} {s : ST} (hx : xs[k]? = some s) {w : Nat} : stepE xs N at_ k w ↔ ((s.op = 1 ∧ at_ = 0 ∧ w = k + 1) ∨ (s.op = 2 ∧ at_ = N ∧ w = k + 1) ∨ (s.op = 3 ∧ (w = s.a.toNat ∨ w = s.b.toNat)) ∨ (s.op = 4 ∧ w = s.a.toNat)) := by
  constructor
  · rintro ⟨s', h, h'⟩
    rw [hx] at h
    cases h
    exact h'
  · intro h; exact ⟨s, hx, h⟩
theorem reachF_dfs (xs : List ST) (at_ N : Nat) (hx4 : xs.length ≤ 1204) : ∀ (n : Nat) (c : List Bool) (k : Nat), c.length = 1204 → unset c < n → Dfs xs N at_ c (reachF xs at_ N n c k).2 (fun v => v = k) (reachF xs at_ N n c k).1
  | 0, c, k, hl, hn => absurd hn (Nat.not_lt_zero _)
  | n + 1, c, k, hl, hn => by
    rw [reachF]
    cases hx : xs[k]? with
    | none =>
      refine Dfs.nil fun v hv hvl => ?_
      subst hv
      have : xs.length ≤ v := by simpa using hx
      omega
    | some s =>
      have hkx : k < xs.length := (List.getElem?_eq_some_iff.1 hx).1
      have hkc : k < c.length := by omega
      simp only
      by_cases ck : c.getD k false = true
      · rw [if_pos ck]
        exact Dfs.nil fun v hv _ => by subst hv; exact InS.getD.2 ck
      rw [if_neg ck]
      have hnk : ¬ InS c k := fun h => ck (InS.getD.1 h)
      have hcf : c[k]? = some false := by
        rw [List.getElem?_eq_getElem hkc]
        cases hb : c[k] with
        | false => rfl
        | true => exact absurd (by unfold InS; rw [List.getElem?_eq_getElem hkc, hb]) hnk
      have hun := unset_set c k hcf
      have hl1 : (c.set k true).length = 1204 := by rw [List.length_set]; exact hl
      have ih := fun k' => reachF_dfs xs at_ N hx4 n (c.set k true) k' hl1 (by omega)
      have none : (∀ w, ¬ stepE xs N at_ k w) → Dfs xs N at_ c (c.set k true) (fun v => v = k) (s.op == 5) := fun h => by
        have := Dfs.node (A := fun _ => False) (r := false) hx hkc hnk (fun w hw => h w hw) (fun w hw => hw.elim) (Dfs.nil fun v hv => hv.elim)
        rw [Bool.false_or] at this
        exact this
      have one : ∀ k', s.op ≠ 5 → (∀ w, stepE xs N at_ k w ↔ w = k') → Dfs xs N at_ c (reachF xs at_ N n (c.set k true) k').2 (fun v => v = k) (reachF xs at_ N n (c.set k true) k').1 := fun k' h5 h => by
        have := Dfs.node (A := fun w => w = k') hx hkc hnk (fun w hw => (h w).1 hw) (fun w hw => (h w).2 hw) (ih k')
        rw [show (s.op == 5) = false from beq_eq_false_iff_ne.2 h5, Bool.or_false] at this
        exact this
      by_cases o1 : s.op = 1
      · rw [if_pos o1]
        by_cases a0 : at_ = 0
        · rw [if_pos a0]
          exact one (k + 1) (by omega) fun w => by rw [stepE_of hx]; omega
        · rw [if_neg a0]
          have := none fun w => by rw [stepE_of hx]; omega
          rw [show (s.op == 5) = false from beq_eq_false_iff_ne.2 (by omega)] at this
          exact this
      rw [if_neg o1]
      by_cases o2 : s.op = 2
      · rw [if_pos o2]
        by_cases a0 : at_ = N
        · rw [if_pos a0]
          exact one (k + 1) (by omega) fun w => by rw [stepE_of hx]; omega
        · rw [if_neg a0]
          have := none fun w => by rw [stepE_of hx]; omega
          rw [show (s.op == 5) = false from beq_eq_false_iff_ne.2 (by omega)] at this
          exact this
      rw [if_neg o2]
      by_cases o3 : s.op = 3
      · rw [if_pos o3]
        have hle := reachF_unset xs at_ N n (c.set k true) s.a.toNat
        have h1 := ih s.a.toNat
        have h2 := reachF_dfs xs at_ N hx4 n (reachF xs at_ N n (c.set k true) s.a.toNat).2 s.b.toNat (by omega) (by omega)
        have := Dfs.node hx hkc hnk (fun w hw => by rw [stepE_of hx] at hw; omega) (fun w hw => by rw [stepE_of hx]; omega) (Dfs.seq h1 h2)
        rw [show (s.op == 5) = false from beq_eq_false_iff_ne.2 (by omega), Bool.or_false] at this
        exact this
      rw [if_neg o3]
      by_cases o4 : s.op = 4
      · rw [if_pos o4]
        exact one s.a.toNat (by omega) fun w => by rw [stepE_of hx]; omega
      rw [if_neg o4]
      have hno := none fun w => by rw [stepE_of hx]; omega
      by_cases o5 : s.op = 5
      · rw [if_pos o5]
        rw [show (s.op == 5) = true from beq_iff_eq.2 o5] at hno
        exact hno
      · rw [if_neg o5]
        rw [show (s.op == 5) = false from beq_eq_false_iff_ne.2 o5] at hno
        exact hno
end
/-- A byte is taken from a step. -/
def stepB (xs : List ST) (bs : List Int) (at_ k : Nat) : Prop := ∃ u, xs[k]? = some u ∧ u.op = 0 ∧ hasC u.c (bs.getD at_ 0) = true
/-- What is reached from the first step at a place. -/
inductive Rch (xs : List ST) (bs : List Int) (i0 : Nat) : Nat → Nat → Prop
  | start : Rch xs bs i0 0 i0
  | eps {k k' i : Nat} (h : Rch xs bs i0 k i) (hs : stepE xs bs.length i k k') : Rch xs bs i0 k' i
  | byte {k i : Nat} (h : Rch xs bs i0 k i) (hi : i < bs.length) (hs : stepB xs bs i k) : Rch xs bs i0 (k + 1) (i + 1)
theorem Rch.le {xs : List ST} {bs : List Int} {i0 k i : Nat} (h : Rch xs bs i0 k i) : i0 ≤ i := by
  induction h with
  | start => exact Nat.le_refl _
  | eps h hs ih => exact ih
  | byte h hi hs ih => omega
theorem Rch.path {xs : List ST} {bs : List Int} {i0 k k' i : Nat} (h : Rch xs bs i0 k i) (hp : EP xs bs.length i k k') : Rch xs bs i0 k' i := by
  induction hp with
  | refl => exact h
  | step hs _ ih => exact ih (h.eps hs)
/-- Where a match is. -/
def Fnd (xs : List ST) (bs : List Int) (i0 j : Nat) : Prop := ∃ k s, Rch xs bs i0 k j ∧ xs[k]? = some s ∧ s.op = 5
theorem set0_in (k : Nat) : ¬ InS set0 k := fun h => by
  unfold InS set0 at h
  rw [List.getElem?_replicate] at h
  split at h <;> cases h
/-- A set that is what is reached at a place. -/
def SetOk (xs : List ST) (bs : List Int) (i0 i : Nat) (c : List Bool) : Prop := c.length = 1204 ∧ ∀ k, InS c k ↔ k < xs.length ∧ Rch xs bs i0 k i
theorem Dfs.ok {xs : List ST} {bs : List Int} {i0 i : Nat} {c' : List Bool} {A : Nat → Prop} {r : Bool} (h : Dfs xs bs.length i set0 c' A r) (hl : c'.length = 1204) (hA : ∀ v, A v → Rch xs bs i0 v i) (hA' : ∀ k, Rch xs bs i0 k i → (∃ v, A v ∧ EP xs bs.length i v k)) : SetOk xs bs i0 i c' ∧ (r = true ↔ Fnd xs bs i0 i) := by
  have key : ∀ v k, EP xs bs.length i v k → (v < xs.length → InS c' v) → k < xs.length → InS c' k := by
    intro v k hp
    induction hp with
    | refl k => intro h1 h2; exact h1 h2
    | step hs hp ih =>
      intro h1 h2
      refine ih (fun hl' => ?_) h2
      obtain ⟨s, hx, _⟩ := hs
      have hv := h1 (List.getElem?_eq_some_iff.1 hx).1
      exact h.closed _ _ hv (set0_in _) ⟨s, hx, by assumption⟩ hl'
  have hin : ∀ k, InS c' k ↔ k < xs.length ∧ Rch xs bs i0 k i := fun k => by
    constructor
    · intro hk
      obtain ⟨a, v, b, d⟩ := h.reach k hk (set0_in k)
      exact ⟨a, (hA v b).path d⟩
    · rintro ⟨a, b⟩
      obtain ⟨v, hv, hp⟩ := hA' k b
      exact key v k hp (fun hl' => h.root v hv hl') a
  refine ⟨⟨hl, hin⟩, ?_⟩
  rw [h.found]
  constructor
  · rintro ⟨u, s, a, _, d⟩
    exact ⟨u, s, ((hin u).1 a).2, d⟩
  · rintro ⟨u, s, a, d1, d2⟩
    exact ⟨u, s, (hin u).2 ⟨(List.getElem?_eq_some_iff.1 d1).1, a⟩, set0_in u, d1, d2⟩
theorem Rch.at_start {xs : List ST} {bs : List Int} {i0 k i : Nat} (h : Rch xs bs i0 k i) : i = i0 → EP xs bs.length i0 0 k := by
  have snoc : ∀ {a b d : Nat}, EP xs bs.length i0 a b → stepE xs bs.length i0 b d → EP xs bs.length i0 a d := by
    intro a b d hp
    induction hp with
    | refl => intro hs; exact .step hs (.refl _)
    | step h _ ih => intro hs; exact .step h (ih hs)
  induction h with
  | start => intro _; exact .refl _
  | eps h hs ih => intro e; subst e; exact snoc (ih rfl) hs
  | byte h hi hs ih => intro e; have := h.le; omega
theorem Rch.at_next {xs : List ST} {bs : List Int} {i0 k i : Nat} (h : Rch xs bs i0 k i) : ∀ j, i = j + 1 → i0 ≤ j → ∃ v, (∃ k', Rch xs bs i0 k' j ∧ j < bs.length ∧ stepB xs bs j k' ∧ v = k' + 1) ∧ EP xs bs.length (j + 1) v k := by
  have snoc : ∀ {i a b d : Nat}, EP xs bs.length i a b → stepE xs bs.length i b d → EP xs bs.length i a d := by
    intro i a b d hp
    induction hp with
    | refl => intro hs; exact .step hs (.refl _)
    | step h _ ih => intro hs; exact .step h (ih hs)
  induction h with
  | start => intro j e hj; omega
  | eps h hs ih =>
    intro j e hj
    obtain ⟨v, hv, hp⟩ := ih j e hj
    subst e
    exact ⟨v, hv, snoc hp hs⟩
  | byte h hi hs ih =>
    intro j e hj
    have e' := Nat.succ.inj e
    subst e'
    exact ⟨_, ⟨_, h, hi, hs, rfl⟩, .refl _⟩
/-- A sweep is a search from what takes the byte. -/
theorem sweepF_dfs (xs : List ST) (bs : List Int) (i : Nat) (now : List Bool) (hx4 : xs.length ≤ 1204) : ∀ (ys : List ST) (k : Nat) (so is : Bool) (nx : List Bool) (B : Nat → Prop), ys = xs.drop k → nx.length = 1204 → Dfs xs bs.length (i + 1) set0 nx B is →
    Dfs xs bs.length (i + 1) set0 (sweepF xs (bs.getD i 0) (i + 1) bs.length now ys k so is nx).2.2 (fun v => B v ∨ ∃ k', k ≤ k' ∧ InS now k' ∧ stepB xs bs i k' ∧ v = k' + 1) (sweepF xs (bs.getD i 0) (i + 1) bs.length now ys k so is nx).2.1 ∧ (sweepF xs (bs.getD i 0) (i + 1) bs.length now ys k so is nx).2.2.length = 1204 ∧ ((sweepF xs (bs.getD i 0) (i + 1) bs.length now ys k so is nx).1 = true ↔ so = true ∨ ∃ k', k ≤ k' ∧ InS now k' ∧ stepB xs bs i k')
  | [], k, so, is, nx, B, hy, hl, h => by
    rw [sweepF]
    have hno : ∀ k', k ≤ k' → ¬ stepB xs bs i k' := fun k' hk hs => by
      obtain ⟨u, hu, _⟩ := hs
      have h1 := (List.getElem?_eq_some_iff.1 hu).1
      have h2 : xs.length ≤ k := by
        have := congrArg List.length hy
        rw [List.length_drop] at this
        simp at this
        omega
      omega
    refine ⟨h.congr (fun v => ⟨.inl, fun hv => ?_⟩) rfl, hl, ⟨.inl, fun hv => ?_⟩⟩
    · rcases hv with hv | ⟨k', a, _, b, _⟩
      · exact hv
      · exact absurd b (hno k' a)
    · rcases hv with hv | ⟨k', a, _, b⟩
      · exact hv
      · exact absurd b (hno k' a)
  | u :: ys, k, so, is, nx, B, hy, hl, h => by
    have hu : xs[k]? = some u := by
      have := congrArg (fun l => l[0]?) hy
      simp only [List.getElem?_drop, Nat.add_zero, List.getElem?_cons_zero] at this
      exact this.symm
    have hy' : ys = xs.drop (k + 1) := by
      have := congrArg List.tail hy
      rw [List.tail_drop] at this
      exact this
    rw [sweepF]
    by_cases c : now.getD k false = true ∧ u.op = 0 ∧ hasC u.c (bs.getD i 0) = true
    · rw [if_pos c]
      have hin : InS now k := InS.getD.2 c.1
      have hsb : stepB xs bs i k := ⟨u, hu, c.2⟩
      have hun := unset_le nx
      have hd := reachF_dfs xs (i + 1) bs.length hx4 1205 nx (k + 1) hl (by omega)
      have hlen := (reachF_unset xs (i + 1) bs.length 1205 nx (k + 1)).2
      have hsq := (Dfs.seq h hd).congr (B := fun v => B v ∨ v = k + 1) (fun v => Iff.rfl) (r1 := is || (reachF xs (i + 1) bs.length 1205 nx (k + 1)).1) (Bool.or_comm _ _)
      obtain ⟨a, b, d⟩ := sweepF_dfs xs bs i now hx4 ys (k + 1) true _ _ _ hy' (by rw [hlen]; exact hl) hsq
      refine ⟨a.congr (fun v => ?_) rfl, b, d.trans ?_⟩
      · constructor
        · rintro ((hv | hv) | ⟨k', e1, e2, e3, e4⟩)
          · exact .inl hv
          · exact .inr ⟨k, Nat.le_refl _, hin, hsb, hv⟩
          · exact .inr ⟨k', by omega, e2, e3, e4⟩
        · rintro (hv | ⟨k', e1, e2, e3, e4⟩)
          · exact .inl (.inl hv)
          · by_cases e : k' = k
            · subst e; exact .inl (.inr e4)
            · exact .inr ⟨k', by omega, e2, e3, e4⟩
      · constructor
        · intro _; exact .inr ⟨k, Nat.le_refl _, hin, hsb⟩
        · intro _; exact .inl rfl
    · rw [if_neg c]
      have hno : ¬ (InS now k ∧ stepB xs bs i k) := fun ⟨h1, u', h2, h3⟩ => by
        rw [hu] at h2
        cases h2
        exact c ⟨InS.getD.1 h1, h3⟩
      obtain ⟨a, b, d⟩ := sweepF_dfs xs bs i now hx4 ys (k + 1) so is nx B hy' hl h
      refine ⟨a.congr (fun v => ?_) rfl, b, d.trans ?_⟩
      · constructor
        · rintro (hv | ⟨k', e1, e2, e3, e4⟩)
          · exact .inl hv
          · exact .inr ⟨k', by omega, e2, e3, e4⟩
        · rintro (hv | ⟨k', e1, e2, e3, e4⟩)
          · exact .inl hv
          · by_cases e : k' = k
            · subst e; exact absurd ⟨e2, e3⟩ hno
            · exact .inr ⟨k', by omega, e2, e3, e4⟩
      · constructor
        · rintro (hv | ⟨k', e1, e2, e3⟩)
          · exact .inl hv
          · exact .inr ⟨k', by omega, e2, e3⟩
        · rintro (hv | ⟨k', e1, e2, e3⟩)
          · exact .inl hv
          · by_cases e : k' = k
            · subst e; exact absurd ⟨e2, e3⟩ hno
            · exact .inr ⟨k', by omega, e2, e3⟩
/-- A list of all places of a kind, in order. -/
structure EndsOf (P : Nat → Prop) (l : List Int) : Prop where
  ord : l.Pairwise (· < ·)
  mem : ∀ e, e ∈ l ↔ ∃ j : Nat, e = (j : Int) ∧ P j
theorem endsF_ok (xs : List ST) (bs : List Int) (i0 : Nat) (hx4 : xs.length ≤ 1204) : ∀ (n i : Nat) (now : List Bool) (out : List Int), n + i = bs.length → i0 ≤ i → SetOk xs bs i0 i now → EndsOf (fun j => j ≤ i ∧ Fnd xs bs i0 j) out → EndsOf (fun j => j ≤ bs.length ∧ Fnd xs bs i0 j) (endsF xs bs n i now out)
  | 0, i, now, out, hn, hi, hs, ho => by
    have e : i = bs.length := by omega
    rw [endsF]
    rw [e] at ho
    exact ho
  | n + 1, i, now, out, hn, hi, hs, ho => by
    rw [endsF]
    have h0 : Dfs xs bs.length (i + 1) set0 set0 (fun _ => False) false := Dfs.nil fun v hv => hv.elim
    obtain ⟨a, b, d⟩ := sweepF_dfs xs bs i now hx4 xs 0 false false set0 _ (by rw [List.drop_zero]) set0_len h0
    obtain ⟨T, hT⟩ : ∃ T, sweepF xs (bs.getD i 0) (i + 1) bs.length now xs 0 false false set0 = T := ⟨_, rfl⟩
    rw [hT] at a b d ⊢
    have hstep : ∀ k', InS now k' ∧ stepB xs bs i k' ↔ Rch xs bs i0 k' i ∧ i < bs.length ∧ stepB xs bs i k' := fun k' => by
      constructor
      · rintro ⟨h1, h2⟩; exact ⟨((hs.2 k').1 h1).2, by omega, h2⟩
      · rintro ⟨h1, _, h2⟩
        obtain ⟨u, hu, h3⟩ := h2
        exact ⟨(hs.2 k').2 ⟨(List.getElem?_eq_some_iff.1 hu).1, h1⟩, u, hu, h3⟩
    by_cases c : T.1 = true
    · rw [if_pos c]
      obtain ⟨ok1, ok2⟩ := a.ok (i0 := i0) b (fun v hv => by
        rcases hv with hv | ⟨k', _, h1, h2, rfl⟩
        · exact hv.elim
        · obtain ⟨x1, x2, x3⟩ := (hstep k').1 ⟨h1, h2⟩
          exact .byte x1 x2 x3) (fun k hk => by
        obtain ⟨v, ⟨k', x1, x2, x3, x4⟩, hp⟩ := hk.at_next i rfl hi
        obtain ⟨y1, y2⟩ := (hstep k').2 ⟨x1, x2, x3⟩
        exact ⟨v, .inr ⟨k', Nat.zero_le _, y1, y2, x4⟩, hp⟩)
      refine endsF_ok xs bs i0 hx4 n (i + 1) _ _ (by omega) (by omega) ok1 ?_
      by_cases f : T.2.1 = true
      · rw [if_pos f]
        have hf := ok2.1 f
        refine ⟨List.pairwise_append.2 ⟨ho.ord, List.pairwise_singleton _ _, fun x hx y hy => ?_⟩, fun e => ?_⟩
        · obtain ⟨j, rfl, hj, _⟩ := (ho.mem x).1 hx
          have : y = (i : Int) + 1 := by simpa using hy
          omega
        · rw [List.mem_append, ho.mem]
          constructor
          · rintro (⟨j, e1, e2, e3⟩ | h1)
            · exact ⟨j, e1, by omega, e3⟩
            · have : e = (i : Int) + 1 := by simpa using h1
              exact ⟨i + 1, by rw [this]; rfl, Nat.le_refl _, hf⟩
          · rintro ⟨j, e1, e2, e3⟩
            by_cases ej : j = i + 1
            · subst ej
              right
              rw [e1]
              simp
            · exact .inl ⟨j, e1, by omega, e3⟩
      · rw [if_neg f]
        refine ⟨ho.ord, fun e => (ho.mem e).trans ?_⟩
        constructor
        · rintro ⟨j, e1, e2, e3⟩; exact ⟨j, e1, by omega, e3⟩
        · rintro ⟨j, e1, e2, e3⟩
          by_cases ej : j = i + 1
          · subst ej; exact absurd (ok2.2 e3) f
          · exact ⟨j, e1, by omega, e3⟩
    · rw [if_neg c]
      have hno : ∀ k', ¬ (Rch xs bs i0 k' i ∧ i < bs.length ∧ stepB xs bs i k') := fun k' h => by
        obtain ⟨y1, y2⟩ := (hstep k').2 h
        exact c (d.2 (.inr ⟨k', Nat.zero_le _, y1, y2⟩))
      have hnone : ∀ m k, ¬ Rch xs bs i0 k (i + 1 + m) := by
        intro m
        induction m with
        | zero =>
          intro k hk
          obtain ⟨v, ⟨k', x1, x2, x3, x4⟩, hp⟩ := hk.at_next i rfl hi
          exact hno k' ⟨x1, x2, x3⟩
        | succ m ih =>
          intro k hk
          obtain ⟨v, ⟨k', x1, x2, x3, x4⟩, hp⟩ := hk.at_next (i + 1 + m) rfl (by omega)
          exact ih k' x1
      refine ⟨ho.ord, fun e => (ho.mem e).trans ?_⟩
      constructor
      · rintro ⟨j, e1, e2, e3⟩; exact ⟨j, e1, by omega, e3⟩
      · rintro ⟨j, e1, e2, k, s, e3, e4⟩
        by_cases ej : j ≤ i
        · exact ⟨j, e1, ej, k, s, e3, e4⟩
        · have e5 : j = i + 1 + (j - i - 1) := by omega
          rw [e5] at e3
          exact absurd e3 (hnone _ _)
/-- ends tells where matches are. -/
theorem endsP_ok (xs : List ST) (bs : List Int) (i0 : Nat) (hx4 : xs.length ≤ 1204) (hi : i0 ≤ bs.length) : EndsOf (fun j => j ≤ bs.length ∧ Fnd xs bs i0 j) (endsP xs bs i0) := by
  unfold endsP
  have hd := reachF_dfs xs i0 bs.length hx4 1205 set0 0 set0_len (by have := unset_le set0; rw [set0_len] at this; omega)
  have hl := (reachF_unset xs i0 bs.length 1205 set0 0).2
  rw [set0_len] at hl
  obtain ⟨ok1, ok2⟩ := hd.ok (i0 := i0) hl (fun v hv => by rw [hv]; exact .start) (fun k hk => ⟨0, rfl, hk.at_start rfl⟩)
  refine endsF_ok xs bs i0 hx4 _ i0 _ _ (by omega) (Nat.le_refl _) ok1 ?_
  have hlt : ∀ j, j ≤ i0 → Fnd xs bs i0 j → j = i0 := fun j hj ⟨k, s, h, _⟩ => by have := h.le; omega
  by_cases f : (reachF xs i0 bs.length 1205 set0 0).1 = true
  · rw [if_pos f]
    refine ⟨List.pairwise_singleton _ _, fun e => ?_⟩
    constructor
    · intro h
      have : e = (i0 : Int) := by simpa using h
      exact ⟨i0, this, Nat.le_refl _, ok2.1 f⟩
    · rintro ⟨j, e1, e2, e3⟩
      rw [hlt j e2 e3] at e1
      simpa using e1
  · rw [if_neg f]
    refine ⟨List.Pairwise.nil, fun e => ?_⟩
    constructor
    · intro h; cases h
    · rintro ⟨j, e1, e2, e3⟩
      have := hlt j e2 e3
      subst this
      exact absurd (ok2.2 e3) f
theorem EndsOf.unique {P Q : Nat → Prop} {l m : List Int} (hl : EndsOf P l) (hm : EndsOf Q m) (h : ∀ j, P j ↔ Q j) : l = m := by
  have key : ∀ (l m : List Int), l.Pairwise (· < ·) → m.Pairwise (· < ·) → (∀ e, e ∈ l ↔ e ∈ m) → l = m := by
    intro l
    induction l with
    | nil =>
      intro m _ _ he
      cases m with
      | nil => rfl
      | cons y m => exact absurd ((he y).2 List.mem_cons_self) (by simp)
    | cons x l ih =>
      intro m hl hm he
      cases m with
      | nil => exact absurd ((he x).1 List.mem_cons_self) (by simp)
      | cons y m =>
        obtain ⟨hx, hl'⟩ := List.pairwise_cons.1 hl
        obtain ⟨hy, hm'⟩ := List.pairwise_cons.1 hm
        have e : x = y := by
          rcases List.mem_cons.1 ((he x).1 List.mem_cons_self) with h1 | h1
          · exact h1
          · rcases List.mem_cons.1 ((he y).2 List.mem_cons_self) with h2 | h2
            · exact h2.symm
            · have := hy x h1; have := hx y h2; omega
        subst e
        congr 1
        refine ih m hl' hm' fun e => ?_
        constructor
        · intro h1
          rcases List.mem_cons.1 ((he e).1 (List.mem_cons_of_mem _ h1)) with h2 | h2
          · have := hx e h1; omega
          · exact h2
        · intro h1
          rcases List.mem_cons.1 ((he e).2 (List.mem_cons_of_mem _ h1)) with h2 | h2
          · have := hy e h1; omega
          · exact h2
  refine key l m hl.ord hm.ord fun e => ?_
  rw [hl.mem, hm.mem]
  constructor
  · rintro ⟨j, h1, h2⟩; exact ⟨j, h1, (h j).1 h2⟩
  · rintro ⟨j, h1, h2⟩; exact ⟨j, h1, (h j).2 h2⟩
end Go.Proofs.Ytclgnefeankbgaa.M
