/- Patterns joined by bars and one behind the other. No program in sight. Conditions: as each theorem says. -/
import Derived.Test.YtclgnefeankbgaaP5
namespace Go.Proofs.Ytclgnefeankbgaa.M
open Go Go.RowKit Go.Proofs.YtclgnefeankbgaaW.PrintWords
set_option linter.unusedVariables false
set_option linter.unusedSimpArgs false
theorem seeP_data (s : ByteArray) (p : Nat) : seeP s p = (s.data[p]?.map fun b => (b.toNat : Int)).getD 0 := by
  unfold seeP
  by_cases h : p < s.size
  · rw [if_pos h, bt_at h]
    have h' : p < s.data.size := h
    rw [Array.getElem?_eq_getElem h']
    rfl
  · rw [if_neg h]
    have h' : s.data.size ≤ p := Nat.le_of_not_lt h
    rw [Array.getElem?_eq_none h']
    rfl
theorem seeP_app (x y : ByteArray) (p : Nat) : seeP (x ++ y) p = if p < x.size then seeP x p else seeP y (p - x.size) := by
  rw [seeP_data, seeP_data, seeP_data, ByteArray.data_append, Array.getElem?_append]
  have e : x.data.size = x.size := rfl
  rw [e]
  split <;> rfl
def joinS (a mid b : ByteArray) : ByteArray := (((⟨#[40]⟩ : ByteArray) ++ a) ++ mid) ++ b ++ (⟨#[41]⟩ : ByteArray)
theorem size_app (x y : ByteArray) : (x ++ y).size = x.size + y.size := ByteArray.size_append
theorem joinS_size (a mid b : ByteArray) : (joinS a mid b).size = a.size + mid.size + b.size + 2 := by
  unfold joinS
  rw [size_app, size_app, size_app, size_app]
  show 1 + a.size + mid.size + b.size + 1 = _
  omega
theorem joinS_see (a mid b : ByteArray) (p : Nat) : seeP (joinS a mid b) p = if p = 0 then 40 else if p < 1 + a.size then seeP a (p - 1) else if p < 1 + a.size + mid.size then seeP mid (p - (1 + a.size)) else if p < 1 + a.size + mid.size + b.size then seeP b (p - (1 + a.size + mid.size)) else if p = 1 + a.size + mid.size + b.size then 41 else 0 := by
  have s1 : (⟨#[40]⟩ : ByteArray).size = 1 := rfl
  unfold joinS
  rw [seeP_app, seeP_app, seeP_app, seeP_app, size_app, size_app, size_app, s1]
  by_cases c0 : p = 0
  · subst c0
    have k1 : 0 < 1 + a.size + mid.size + b.size := by omega
    have k2 : 0 < 1 + a.size + mid.size := by omega
    have k3 : 0 < 1 + a.size := by omega
    have k4 : 0 < 1 := by omega
    simp only [k1, k2, k3, k4, if_true]
    rfl
  have k4 : ¬ p < 1 := by omega
  by_cases c1 : p < 1 + a.size
  · have k1 : p < 1 + a.size + mid.size + b.size := by omega
    have k2 : p < 1 + a.size + mid.size := by omega
    simp only [c0, c1, k1, k2, k4, if_true, if_false]
  by_cases c2 : p < 1 + a.size + mid.size
  · have k1 : p < 1 + a.size + mid.size + b.size := by omega
    simp only [c0, c1, c2, k1, if_true, if_false]
  by_cases c3 : p < 1 + a.size + mid.size + b.size
  · simp only [c0, c1, c2, c3, if_true, if_false]
  by_cases c4 : p = 1 + a.size + mid.size + b.size
  · simp only [c0, c1, c2, c3, if_true, if_false]
    rw [if_pos c4, c4, Nat.sub_self]
    rfl
  · simp only [c0, c1, c2, c3, c4, if_true, if_false]
    obtain ⟨k, hk⟩ : ∃ k, p - (1 + a.size + mid.size + b.size) = k + 1 := ⟨p - (1 + a.size + mid.size + b.size) - 1, by omega⟩
    rw [hk]
    exact seeP_end (s := ⟨#[41]⟩) (p := k + 1) (Nat.succ_le_succ (Nat.zero_le k))
theorem emb_a (a mid b : ByteArray) (hm : 0 < mid.size) (h41 : seeP mid 0 = 41) : Emb a (joinS a mid b) 1 := by
  refine ⟨by rw [joinS_size]; omega, fun p hp => ?_, ?_⟩
  · rw [joinS_see, if_neg (by omega), if_pos (by omega), Nat.add_sub_cancel_left]
  · rw [joinS_see, if_neg (by omega), if_neg (by omega), if_pos (by omega), Nat.sub_self, h41]
theorem emb_b (a mid b : ByteArray) : Emb b (joinS a mid b) (1 + a.size + mid.size) := by
  refine ⟨by rw [joinS_size]; omega, fun p hp => ?_, ?_⟩
  · rw [joinS_see, if_neg (by omega), if_neg (by omega), if_neg (by omega), if_pos (by omega), Nat.add_sub_cancel_left]
  · rw [joinS_see, if_neg (by omega), if_neg (by omega), if_neg (by omega), if_neg (by omega), if_pos rfl]
theorem readR_full {s : ByteArray} {fold : Bool} {t : Pt} {q : Nat} (h : readR s fold = .ok t q) : altR s fold (s.size + 1) 0 = .ok t s.size := by
  unfold readR at h
  cases h1 : altR s fold (s.size + 1) 0 with
  | bad n => rw [h1] at h; cases h
  | ok u q1 =>
    rw [h1] at h
    simp only at h
    have h2 := altR_ok s fold _ 0 u q1 (Nat.zero_le _) h1
    by_cases c : q1 < s.size
    · rw [if_pos c] at h; cases h
    · rw [if_neg c] at h
      cases h
      have e : q = s.size := by omega
      rw [e]
/-- A group: what stands in brackets is read as it was. -/
theorem group {s s' : ByteArray} {o n : Nat} {fold : Bool} {t : Pt} {q : Nat} (E : Emb s s' (o + 1)) (ho : seeP s' o = 40) (hn : s.size + 1 ≤ n) (hr : readR s fold = .ok t q) (hnext : ∀ b, b = 42 ∨ b = 43 ∨ b = 63 ∨ b = 123 → takeP s' (o + 1 + s.size + 1) b = false) : repR (altR s' fold n) s' fold o = .ok t (o + 1 + s.size + 1) := by
  have hs := E.sz
  have h1 := emb_alt E fold (s.size + 1) n 0 t s.size hn (Nat.zero_le _) (readR_full hr)
  rw [show o + 1 + 0 = o + 1 from rfl] at h1
  have hat : atomR (altR s' fold n) s' fold o = .ok t (o + 1 + s.size + 1) := by
    unfold atomR
    have e : stopI 40 < 0 := by decide
    rw [ho, if_neg (by omega), if_neg (by decide), if_neg (by decide), if_neg (by decide), if_pos rfl, h1]
    simp only
    rw [if_pos (takeP_iff.2 ⟨hs, E.fin⟩)]
  unfold repR
  rw [hat]
  simp only
  obtain ⟨m, hm⟩ : ∃ m, s'.size + 1 - (o + 1 + s.size + 1) = m + 1 := ⟨s'.size + 1 - (o + 1 + s.size + 1) - 1, by omega⟩
  rw [hm, repL]
  rw [if_neg (by rw [hnext 42 (by omega)]; decide), if_neg (by rw [hnext 43 (by omega)]; decide), if_neg (by rw [hnext 63 (by omega)]; decide), if_neg (by rw [hnext 123 (by omega)]; decide)]
theorem take_see {s : ByteArray} {p : Nat} {b x : Int} (h : seeP s p = x) (hb : b ≠ x) : takeP s p b = false := by
  cases ht : takeP s p b with
  | false => rfl
  | true => exact absurd ((takeP_iff.1 ht).2.symm.trans h) hb
theorem take_end {s : ByteArray} {p : Nat} {b : Int} (h : s.size ≤ p) : takeP s p b = false := by
  cases ht : takeP s p b with
  | false => rfl
  | true => have := takeP_lt ht; omega
def barM : ByteArray := ⟨#[41, 124, 40]⟩
def rowM : ByteArray := ⟨#[41, 40]⟩
section
variable {a b : ByteArray} {fold : Bool} {t0 t1 : Pt} {q0 q1 : Nat}
theorem catL_one {rep : Nat → Rs Pt} {s : ByteArray} {n p q : Nat} {t : Pt} (hp : p < s.size) (hs : seeP s p = 40) (hr : rep p = .ok t q) (hstop : ¬ (q < s.size ∧ seeP s q ≠ 124 ∧ seeP s q ≠ 41)) (hn : 2 ≤ n) (f : Pt) : catL rep s n p f = .ok (f.app t) q := by
  obtain ⟨m, rfl⟩ : ∃ m, n = m + 2 := ⟨n - 2, by omega⟩
  rw [catL, if_pos ⟨hp, by rw [hs]; decide, by rw [hs]; decide⟩, hr]
  simp only
  rw [catL, if_neg hstop]
theorem read_bar (h0 : readR a fold = .ok t0 q0) (h1 : readR b fold = .ok t1 q1) : readR (joinS a barM b) fold = .ok (altT ((catT t0).app (catT t1))) (joinS a barM b).size := by
  obtain ⟨s', hs'⟩ : ∃ x, joinS a barM b = x := ⟨_, rfl⟩
  have m3 : barM.size = 3 := rfl
  have hsz : s'.size = a.size + b.size + 5 := by rw [← hs', joinS_size, m3]; omega
  have E0 : Emb a s' 1 := hs' ▸ emb_a a barM b (by decide) (by decide)
  have E1 : Emb b s' (1 + a.size + 3) := hs' ▸ emb_b a barM b
  have g0 : seeP s' 0 = 40 := by rw [← hs', joinS_see, if_pos rfl]
  have g1 : seeP s' (1 + a.size + 1) = 124 := by
    rw [← hs', joinS_see, if_neg (by omega), if_neg (by omega), if_pos (by rw [m3]; omega), show 1 + a.size + 1 - (1 + a.size) = 1 by omega]
    decide
  have g2 : seeP s' (1 + a.size + 2) = 40 := by
    rw [← hs', joinS_see, if_neg (by omega), if_neg (by omega), if_pos (by rw [m3]; omega), show 1 + a.size + 2 - (1 + a.size) = 2 by omega]
    decide
  rw [hs']
  obtain ⟨n, hn⟩ : ∃ n, n = s'.size := ⟨_, rfl⟩
  have r0 : repR (altR s' fold n) s' fold 0 = .ok t0 (1 + a.size + 1) := by
    have := group (o := 0) (n := n) E0 g0 (by omega) h0 (fun b hb => take_see (x := 124) (by rw [show 0 + 1 + a.size + 1 = 1 + a.size + 1 by omega]; exact g1) (by omega))
    rw [show 0 + 1 + a.size + 1 = 1 + a.size + 1 by omega] at this
    exact this
  have r1 : repR (altR s' fold n) s' fold (1 + a.size + 2) = .ok t1 s'.size := by
    have := group (o := 1 + a.size + 2) (n := n) E1 g2 (by omega) h1 (fun b hb => take_end (by omega))
    rw [show 1 + a.size + 2 + 1 + b.size + 1 = s'.size by omega] at this
    exact this
  have c0 : catR (repR (altR s' fold n) s' fold) s' 0 = .ok (catT t0) (1 + a.size + 1) := by
    unfold catR
    rw [catL_one (by omega) g0 r0 (fun h => h.2.1 g1) (by omega)]
    rfl
  have c1 : catR (repR (altR s' fold n) s' fold) s' (1 + a.size + 1 + 1) = .ok (catT t1) s'.size := by
    unfold catR
    rw [show 1 + a.size + 1 + 1 = 1 + a.size + 2 from rfl, catL_one (by omega) g2 r1 (fun h => by omega) (by omega)]
    rfl
  have hal : altR s' fold (s'.size + 1) 0 = .ok (altT ((catT t0).app (catT t1))) s'.size := by
    rw [altR, ← hn]
    unfold altB
    rw [c0]
    simp only
    obtain ⟨m, hm⟩ : ∃ m, s'.size + 1 - (1 + a.size + 1) = m + 2 := ⟨s'.size + 1 - (1 + a.size + 1) - 2, by omega⟩
    rw [hm, altL, if_pos (takeP_iff.2 ⟨by omega, g1⟩), c1]
    simp only
    rw [altL, if_neg (by rw [take_end (Nat.le_refl _)]; decide), hn]
    rfl
  unfold readR
  rw [hal]
  simp only
  rw [if_neg (by omega)]
theorem read_row (h0 : readR a fold = .ok t0 q0) (h1 : readR b fold = .ok t1 q1) : readR (joinS a rowM b) fold = .ok (catT (t0.app t1)) (joinS a rowM b).size := by
  obtain ⟨s', hs'⟩ : ∃ x, joinS a rowM b = x := ⟨_, rfl⟩
  have m3 : rowM.size = 2 := rfl
  have hsz : s'.size = a.size + b.size + 4 := by rw [← hs', joinS_size, m3]; omega
  have E0 : Emb a s' 1 := hs' ▸ emb_a a rowM b (by decide) (by decide)
  have E1 : Emb b s' (1 + a.size + 2) := hs' ▸ emb_b a rowM b
  have g0 : seeP s' 0 = 40 := by rw [← hs', joinS_see, if_pos rfl]
  have g1 : seeP s' (1 + a.size + 1) = 40 := by
    rw [← hs', joinS_see, if_neg (by omega), if_neg (by omega), if_pos (by rw [m3]; omega), show 1 + a.size + 1 - (1 + a.size) = 1 by omega]
    decide
  rw [hs']
  obtain ⟨n, hn⟩ : ∃ n, n = s'.size := ⟨_, rfl⟩
  have r0 : repR (altR s' fold n) s' fold 0 = .ok t0 (1 + a.size + 1) := by
    have := group (o := 0) (n := n) E0 g0 (by omega) h0 (fun b hb => take_see (x := 40) (by rw [show 0 + 1 + a.size + 1 = 1 + a.size + 1 by omega]; exact g1) (by omega))
    rw [show 0 + 1 + a.size + 1 = 1 + a.size + 1 by omega] at this
    exact this
  have r1 : repR (altR s' fold n) s' fold (1 + a.size + 1) = .ok t1 s'.size := by
    have := group (o := 1 + a.size + 1) (n := n) E1 g1 (by omega) h1 (fun b hb => take_end (by omega))
    rw [show 1 + a.size + 1 + 1 + b.size + 1 = s'.size by omega] at this
    exact this
  have c0 : catR (repR (altR s' fold n) s' fold) s' 0 = .ok (catT (t0.app t1)) s'.size := by
    unfold catR
    obtain ⟨m, hm⟩ : ∃ m, s'.size + 1 - 0 = m + 1 + 2 := ⟨s'.size + 1 - 0 - 3, by omega⟩
    rw [hm, catL, if_pos ⟨by omega, by rw [g0]; decide, by rw [g0]; decide⟩, r0]
    simp only
    rw [catL_one (by omega) g1 r1 (fun h => by omega) (by omega)]
    rfl
  have hal : altR s' fold (s'.size + 1) 0 = .ok (catT (t0.app t1)) s'.size := by
    rw [altR, ← hn]
    unfold altB
    rw [c0]
    simp only
    obtain ⟨m, hm⟩ : ∃ m, s'.size + 1 - s'.size = m + 1 := ⟨0, by omega⟩
    rw [hm, altL, if_neg (by rw [take_end (Nat.le_refl _)]; decide), hn]
    rfl
  unfold readR
  rw [hal]
  simp only
  rw [if_neg (by omega)]
end
/-- What is matched lies within the bytes. -/
def RelOk (bs : List Int) (M : Rel) : Prop := ∀ i j, M i j → i ≤ j ∧ (i ≤ bs.length → j ≤ bs.length)
theorem relOk_id (bs : List Int) : RelOk bs idR := fun i j h => by cases h; exact ⟨Nat.le_refl _, fun h => h⟩
theorem relOk_comp {bs : List Int} {M N : Rel} (h : RelOk bs M) (k : RelOk bs N) : RelOk bs (compR M N) := fun i j ⟨l, a, b⟩ => ⟨Nat.le_trans (h i l a).1 (k l j b).1, fun hi => (k l j b).2 ((h i l a).2 hi)⟩
theorem relOk_it {bs : List Int} {M : Rel} (h : RelOk bs M) : ∀ n, RelOk bs (itR M n)
  | 0 => relOk_id bs
  | n + 1 => relOk_comp h (relOk_it h n)
theorem relOk_compL {bs : List Int} : ∀ {Ms : List Rel}, (∀ M ∈ Ms, RelOk bs M) → RelOk bs (compL Ms)
  | [], _ => relOk_id bs
  | M :: Ms, h => relOk_comp (h M List.mem_cons_self) (relOk_compL fun M' h' => h M' (List.mem_cons_of_mem _ h'))
theorem relOk_rels (bs : List Int) : ∀ t : Pt, ∀ M ∈ rels bs t, RelOk bs M
  | .nil, M, h => by cases h
  | .cons k c le mo nu kids rest, M, h => by
    have ih := relOk_rels bs kids
    unfold rels at h
    rcases List.mem_cons.1 h with h | h
    · subst h
      unfold rel1
      split
      · rintro i j ⟨a, _, rfl⟩; exact ⟨Nat.le_succ _, fun _ => a⟩
      split
      · rintro i j ⟨_, rfl⟩; exact ⟨Nat.le_refl _, fun h => h⟩
      split
      · rintro i j ⟨_, rfl⟩; exact ⟨Nat.le_refl _, fun h => h⟩
      split
      · exact relOk_compL ih
      split
      · rintro i j ⟨M', h1, h2⟩; exact ih M' h1 i j h2
      · rintro i j ⟨n, _, _, h3⟩
        refine relOk_it (M := (rels bs kids).headD idR) ?_ n i j h3
        cases hk : rels bs kids with
        | nil => exact relOk_id bs
        | cons M' Ms => exact ih M' (by rw [hk]; exact List.mem_cons_self)
    · exact relOk_rels bs rest M h
theorem rels_app (bs : List Int) : ∀ t u : Pt, rels bs (t.app u) = rels bs t ++ rels bs u
  | .nil, u => rfl
  | .cons k c le mo nu kids rest, u => by
    show rel1 bs k c le mo (rels bs kids) :: rels bs (rest.app u) = _
    rw [rels_app bs rest u]
    rfl
theorem rels_one {bs : List Int} {t : Pt} (h : t.one) : rels bs t = [relT bs t] := by
  cases t with
  | nil => cases h
  | cons k c le mo nu kids rest => cases rest with
    | nil => rfl
    | cons => cases h
theorem relT_ok {bs : List Int} {t : Pt} (h : t.one) : RelOk bs (relT bs t) := relOk_rels bs t _ (by rw [rels_one h]; exact List.mem_cons_self)
section
variable {a b : ByteArray} {z0 z1 z2 : Int} {x0 x1 x2 : List ST}
/-- A bar: one of both. -/
theorem ends_bar (h0 : parseR a false = .ok z0 x0) (h1 : parseR b false = .ok z1 x1) (h2 : parseR (joinS a barM b) false = .ok z2 x2) (bs : List Int) (i0 : Nat) (hi : i0 ≤ bs.length) : EndsOf (fun j => ((j : Int) ∈ endsP x0 bs i0 ∨ (j : Int) ∈ endsP x1 bs i0)) (endsP x2 bs i0) := by
  obtain ⟨t0, q0, r0, _, g0, e0⟩ := parse_ends h0
  obtain ⟨t1, q1, r1, _, g1, e1⟩ := parse_ends h1
  obtain ⟨t2, q2, r2, _, g2, e2⟩ := parse_ends h2
  rw [read_bar r0 r1] at r2
  cases r2
  have he := e2 bs i0 hi
  have hm : ∀ j, relT bs (altT ((catT t0).app (catT t1))) i0 j ↔ relT bs t0 i0 j ∨ relT bs t1 i0 j := fun j => by
    have e : relT bs (altT ((catT t0).app (catT t1))) = altM [compL [relT bs t0], compL [relT bs t1]] := by
      show rel1 bs 4 C4.nil 0 0 (rels bs ((catT t0).app (catT t1))) = _
      rw [rels_app]
      show altM ([rel1 bs 3 C4.nil 0 0 (rels bs t0)] ++ [rel1 bs 3 C4.nil 0 0 (rels bs t1)]) = _
      rw [rels_one g0.one, rels_one g1.one]
      rfl
    rw [e]
    constructor
    · rintro ⟨M, hM, h⟩
      simp only [List.mem_cons, List.not_mem_nil, or_false] at hM
      rcases hM with rfl | rfl
      · obtain ⟨k, h, rfl⟩ := h; exact .inl h
      · obtain ⟨k, h, rfl⟩ := h; exact .inr h
    · rintro (h | h)
      · exact ⟨compL [relT bs t0], by simp, j, h, rfl⟩
      · exact ⟨compL [relT bs t1], by simp, j, h, rfl⟩
  refine ⟨he.ord, fun e => (he.mem e).trans ?_⟩
  constructor
  · rintro ⟨j, rfl, hj, hr⟩
    refine ⟨j, rfl, ?_⟩
    rcases (hm j).1 hr with h | h
    · exact .inl (((e0 bs i0 hi).mem _).2 ⟨j, rfl, hj, h⟩)
    · exact .inr (((e1 bs i0 hi).mem _).2 ⟨j, rfl, hj, h⟩)
  · rintro ⟨j, rfl, h | h⟩
    · obtain ⟨j', ej, hj, hr⟩ := ((e0 bs i0 hi).mem _).1 h
      have : j = j' := by omega
      subst this
      exact ⟨j, rfl, hj, (hm j).2 (.inl hr)⟩
    · obtain ⟨j', ej, hj, hr⟩ := ((e1 bs i0 hi).mem _).1 h
      have : j = j' := by omega
      subst this
      exact ⟨j, rfl, hj, (hm j).2 (.inr hr)⟩
/-- One behind the other. -/
theorem ends_row (h0 : parseR a false = .ok z0 x0) (h1 : parseR b false = .ok z1 x1) (h2 : parseR (joinS a rowM b) false = .ok z2 x2) (bs : List Int) (i0 : Nat) (hi : i0 ≤ bs.length) : EndsOf (fun j => ∃ k : Nat, (k : Int) ∈ endsP x0 bs i0 ∧ (j : Int) ∈ endsP x1 bs k) (endsP x2 bs i0) := by
  obtain ⟨t0, q0, r0, _, g0, e0⟩ := parse_ends h0
  obtain ⟨t1, q1, r1, _, g1, e1⟩ := parse_ends h1
  obtain ⟨t2, q2, r2, _, g2, e2⟩ := parse_ends h2
  rw [read_row r0 r1] at r2
  cases r2
  have he := e2 bs i0 hi
  have hm : ∀ j, relT bs (catT (t0.app t1)) i0 j ↔ ∃ k, relT bs t0 i0 k ∧ relT bs t1 k j := fun j => by
    have e : relT bs (catT (t0.app t1)) = compL [relT bs t0, relT bs t1] := by
      show rel1 bs 3 C4.nil 0 0 (rels bs (t0.app t1)) = _
      rw [rels_app, rels_one g0.one, rels_one g1.one]
      rfl
    rw [e]
    constructor
    · rintro ⟨k, h, l, h', rfl⟩; exact ⟨k, h, h'⟩
    · rintro ⟨k, h, h'⟩; exact ⟨k, h, j, h', rfl⟩
  refine ⟨he.ord, fun e => (he.mem e).trans ?_⟩
  constructor
  · rintro ⟨j, rfl, hj, hr⟩
    obtain ⟨k, h, h'⟩ := (hm j).1 hr
    have hk := (relT_ok g0.one i0 k h).2 hi
    exact ⟨j, rfl, k, ((e0 bs i0 hi).mem _).2 ⟨k, rfl, hk, h⟩, ((e1 bs k hk).mem _).2 ⟨j, rfl, hj, h'⟩⟩
  · rintro ⟨j, rfl, k, h, h'⟩
    obtain ⟨k', ek, hk, hr⟩ := ((e0 bs i0 hi).mem _).1 h
    have : k = k' := by omega
    subst this
    obtain ⟨j', ej, hj, hr'⟩ := ((e1 bs k hk).mem _).1 h'
    have : j = j' := by omega
    subst this
    exact ⟨j, rfl, hj, (hm j).2 ⟨k, hr, hr'⟩⟩
end
end Go.Proofs.Ytclgnefeankbgaa.M
