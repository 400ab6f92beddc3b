/- A text that is a pattern is read as it was where it stands in another one ahead of a bracket. No program in sight. Conditions: as each theorem says. -/
import Derived.Test.YtclgnefeankbgaaP4
namespace Go.Proofs.Ytclgnefeankbgaa.M
open Go Go.RowKit Go.Proofs.YtclgnefeankbgaaW.PrintWords
set_option linter.unusedVariables false
set_option linter.unusedSimpArgs false
/-- s stands in s' at o, a closing bracket behind it. -/
structure Emb (s s' : ByteArray) (o : Nat) : Prop where
  sz : o + s.size < s'.size
  see : ∀ p, p < s.size → seeP s' (o + p) = seeP s p
  fin : seeP s' (o + s.size) = 41
theorem seeP_end {s : ByteArray} {p : Nat} (h : s.size ≤ p) : seeP s p = 0 := if_neg (by omega)
theorem takeP_iff {s : ByteArray} {p : Nat} {b : Int} : takeP s p b = true ↔ p < s.size ∧ seeP s p = b := by
  unfold takeP seeP
  rw [decide_eq_true_iff]
  constructor
  · rintro ⟨a, c⟩; exact ⟨a, by rw [if_pos a]; exact c⟩
  · rintro ⟨a, c⟩; rw [if_pos a] at c; exact ⟨a, c⟩
section
variable {s s' : ByteArray} {o : Nat}
theorem Emb.take (E : Emb s s' o) {p : Nat} (hp : p ≤ s.size) {b : Int} (hb : b ≠ 41) : takeP s' (o + p) b = takeP s p b := by
  rw [Bool.eq_iff_iff, takeP_iff, takeP_iff]
  have hs := E.sz
  rcases Nat.lt_or_ge p s.size with h | h
  · rw [E.see p h]
    constructor
    · rintro ⟨_, a⟩; exact ⟨h, a⟩
    · rintro ⟨_, a⟩; exact ⟨by omega, a⟩
  · have e : p = s.size := by omega
    subst e
    rw [E.fin]
    constructor
    · rintro ⟨_, a⟩; exact absurd a.symm hb
    · rintro ⟨a, _⟩; omega
theorem Emb.take_t (E : Emb s s' o) {p : Nat} {b : Int} (h : takeP s p b = true) : takeP s' (o + p) b = true := by
  rw [takeP_iff] at h ⊢
  have hs := E.sz
  exact ⟨by omega, by rw [E.see p h.1]; exact h.2⟩
theorem emb_numL (E : Emb s s' o) : ∀ (k k' p : Nat) (n : Int), s.size - p ≤ k → s.size - p ≤ k' → p ≤ s.size → numL s' k' (o + p) n = ((numL s k p n).1, o + (numL s k p n).2) := by
  have hend : ∀ (k p : Nat) (n : Int), p = s.size → numL s k p n = (n, p) := fun k p n e => by
    cases k with
    | zero => rfl
    | succ k => rw [numL, seeP_end (by omega), if_neg (by omega)]
  have hend' : ∀ (k p : Nat) (n : Int), p = s.size → numL s' k (o + p) n = (n, o + p) := fun k p n e => by
    cases k with
    | zero => rfl
    | succ k => rw [numL, e, E.fin, if_neg (by omega)]
  intro k
  induction k with
  | zero =>
    intro k' p n h1 h2 hp
    have e : p = s.size := by omega
    rw [hend 0 p n e, hend' k' p n e]
  | succ k ih =>
    intro k' p n h1 h2 hp
    by_cases e : p = s.size
    · rw [hend _ p n e, hend' k' p n e]
    · obtain ⟨m, rfl⟩ : ∃ m, k' = m + 1 := ⟨k' - 1, by omega⟩
      rw [numL, numL, E.see p (by omega)]
      by_cases c : 48 ≤ seeP s p ∧ seeP s p ≤ 57
      · rw [if_pos c, if_pos c]
        exact ih m (p + 1) _ (by omega) (by omega) (by omega)
      · rw [if_neg c, if_neg c]
theorem emb_number (E : Emb s s' o) {least : Int} {p : Nat} {n : Int} {q : Nat} (hp : p ≤ s.size) (h : numberR s least p = .ok n q) : numberR s' least (o + p) = .ok n (o + q) := by
  have hs := E.sz
  have e : numP s' (o + p) = ((numP s p).1, o + (numP s p).2) := emb_numL E _ _ p 0 (Nat.le_refl _) (by omega) hp
  unfold numberR at h ⊢
  rw [e]
  by_cases c : (numP s p).2 = p ∨ (numP s p).1 < least ∨ 60 < (numP s p).1
  · rw [if_pos c] at h; cases h
  · rw [if_neg c] at h
    cases h
    rw [if_neg (fun h => c (by
      rcases h with h | h
      · exact .inl (by have : o + (numP s p).2 = o + p := h; omega)
      · exact .inr h))]
theorem emb_count (E : Emb s s' o) {p : Nat} {x : Int × Int} {q : Nat} (hp : p ≤ s.size) (h : countR s p = .ok x q) : countR s' (o + p) = .ok x (o + q) := by
  unfold countR at h ⊢
  cases h1 : numberR s 0 p with
  | bad n => rw [h1] at h; cases h
  | ok le q1 =>
    rw [h1] at h
    rw [emb_number E hp h1]
    simp only at h ⊢
    have hq := numberR_ok hp h1
    rw [E.take hq.2.2.2.1 (by decide)]
    by_cases t1 : takeP s q1 44 = true
    · rw [if_pos t1] at h ⊢
      have ht := takeP_lt t1
      have hsee : seeP s' (o + q1 + 1) = 125 ↔ seeP s (q1 + 1) = 125 := by
        rcases Nat.lt_or_ge (q1 + 1) s.size with h3 | h3
        · rw [show o + q1 + 1 = o + (q1 + 1) from rfl, E.see _ h3]
        · have e : q1 + 1 = s.size := by omega
          rw [show o + q1 + 1 = o + (q1 + 1) from rfl, e, E.fin, seeP_end (Nat.le_refl _)]
          omega
      by_cases t2 : seeP s (q1 + 1) = 125
      · rw [if_pos t2] at h
        rw [if_pos (hsee.2 t2)]
        cases h
        rfl
      · rw [if_neg t2] at h
        rw [if_neg (fun h => t2 (hsee.1 h))]
        cases h5 : numberR s le (q1 + 1) with
        | bad n => rw [h5] at h; cases h
        | ok m2 q2 =>
          rw [h5] at h
          have h6 := emb_number E (by omega) h5
          rw [show o + (q1 + 1) = o + q1 + 1 from rfl] at h6
          rw [h6]
          simp only at h ⊢
          by_cases t3 : takeP s q2 125 = true
          · rw [if_pos t3] at h
            rw [if_pos (E.take_t t3)]
            cases h
            rfl
          · rw [if_neg t3] at h; cases h
    · rw [if_neg t1] at h
      rw [if_neg t1]
      rw [E.take hq.2.2.2.1 (by decide)]
      by_cases t3 : takeP s q1 125 = true
      · rw [if_pos t3] at h ⊢
        cases h
        rfl
      · rw [if_neg t3] at h; cases h
theorem emb_esc (E : Emb s s' o) {p : Nat} {x : C4 × Int × Bool} {q : Nat} (hp : p < s.size) (h : escR s p = .ok x q) : escR s' (o + p) = .ok x (o + q) := by
  have hok := escR_ok hp h
  have h1 : p + 1 < s.size := by
    rcases Nat.lt_or_ge (p + 1) s.size with h1 | h1
    · exact h1
    · exfalso
      unfold escR at h
      rw [seeP_end h1] at h
      have e0 : severalP 0 = none := by decide
      have et : ∀ b, takeP s (p + 1) b = false := fun b => by
        cases ht : takeP s (p + 1) b with
        | false => rfl
        | true => have := takeP_lt ht; omega
      rw [e0] at h
      simp only [et] at h
      rw [if_neg (by decide), if_neg (by decide), if_neg (by decide), if_pos (.inl (by decide))] at h
      cases h
  have hse := E.see (p + 1) h1
  unfold escR at h ⊢
  rw [show o + p + 1 = o + (p + 1) from rfl, hse]
  cases hc : severalP (seeP s (p + 1)) with
  | some c =>
    rw [hc] at h
    cases h
    rfl
  | none =>
    rw [hc] at h
    simp only at h ⊢
    rw [E.take (by omega) (by decide), E.take (by omega) (by decide), E.take (by omega) (by decide)]
    by_cases t1 : takeP s (p + 1) 110 = true
    · rw [if_pos t1] at h ⊢
      cases h; rfl
    rw [if_neg t1] at h ⊢
    by_cases t2 : takeP s (p + 1) 116 = true
    · rw [if_pos t2] at h ⊢
      cases h; rfl
    rw [if_neg t2] at h ⊢
    by_cases t3 : takeP s (p + 1) 120 = true
    · rw [if_pos t3] at h ⊢
      have d0 : digP 0 < 0 := by decide
      by_cases t4 : digP (seeP s (p + 1 + 1)) < 0
      · rw [if_pos t4] at h; cases h
      rw [if_neg t4] at h
      have h2 : p + 1 + 1 < s.size := by
        rcases Nat.lt_or_ge (p + 1 + 1) s.size with h2 | h2
        · exact h2
        · rw [seeP_end h2] at t4; exact absurd d0 t4
      by_cases t5 : digP (seeP s (p + 1 + 1 + 1)) < 0
      · rw [if_pos t5] at h; cases h
      rw [if_neg t5] at h
      have h3 : p + 1 + 1 + 1 < s.size := by
        rcases Nat.lt_or_ge (p + 1 + 1 + 1) s.size with h2 | h2
        · exact h2
        · rw [seeP_end h2] at t5; exact absurd d0 t5
      cases h
      rw [show o + (p + 1) + 1 = o + (p + 1 + 1) from rfl, show o + (p + 1 + 1) + 1 = o + (p + 1 + 1 + 1) from rfl, E.see _ h2, E.see _ h3, if_neg t4, if_neg t5]
      rfl
    · rw [if_neg t3] at h ⊢
      by_cases t6 : notEsc (seeP s (p + 1))
      · rw [if_pos t6] at h; cases h
      · rw [if_neg t6] at h ⊢
        cases h
        rfl
theorem emb_ne93 (E : Emb s s' o) {p : Nat} (hp : p < s.size) : seeP s' (o + p + 1) = 93 ↔ seeP s (p + 1) = 93 := by
  rw [show o + p + 1 = o + (p + 1) from rfl]
  rcases Nat.lt_or_ge (p + 1) s.size with h3 | h3
  · rw [E.see _ h3]
  · have e : p + 1 = s.size := by omega
    rw [e, E.fin, seeP_end (Nat.le_refl _)]
    omega
theorem emb_one (E : Emb s s' o) {p : Nat} {f : Bool} {x : C4 × Int × Bool} {q : Nat} (h : oneR s p f = .ok x q) : oneR s' (o + p) f = .ok x (o + q) := by
  unfold oneR at h ⊢
  by_cases c1 : seeP s p < 32 ∨ 126 < seeP s p ∨ seeP s p = 93
  · rw [if_pos c1] at h; cases h
  rw [if_neg c1] at h
  have hp : p < s.size := seeP_lt (fun e => c1 (.inl (by rw [e]; decide)))
  rw [E.see p hp, if_neg c1]
  by_cases c2 : seeP s p = 92
  · rw [if_pos c2] at h ⊢
    exact emb_esc E hp h
  rw [if_neg c2] at h ⊢
  have h93 := emb_ne93 E hp
  by_cases c3 : seeP s p = 45 ∧ f = false ∧ seeP s (p + 1) ≠ 93
  · rw [if_pos c3] at h; cases h
  · rw [if_neg c3] at h
    rw [if_neg (fun h => c3 ⟨h.1, h.2.1, fun e => h.2.2 (h93.2 e)⟩)]
    cases h
    rfl
theorem emb_brL (E : Emb s s' o) : ∀ (n n' p : Nat) (f : Bool) (out c : C4) (q : Nat), p ≤ s.size → s.size + 1 ≤ p + n → s.size + 1 ≤ p + n' → brL s n p f out = .ok c q → brL s' n' (o + p) f out = .ok c (o + q)
  | 0, n', p, f, out, c, q, hp, h1, h2, h => by omega
  | n + 1, n', p, f, out, c, q, hp, h1, h2, h => by
    obtain ⟨m, rfl⟩ : ∃ m, n' = m + 1 := ⟨n' - 1, by omega⟩
    rw [brL] at h ⊢
    by_cases c1 : f = false ∧ seeP s p = 93
    · rw [if_pos c1] at h
      cases h
      have hq : p < s.size := seeP_lt (by rw [c1.2]; decide)
      rw [E.see p hq, if_pos c1]
    rw [if_neg c1] at h
    cases ho : oneR s p f with
    | bad k => rw [ho] at h; cases h
    | ok x q1 =>
      rw [ho] at h
      have hok := oneR_ok ho
      have hpl : p < s.size := by omega
      rw [E.see p hpl, if_neg c1, emb_one E ho]
      simp only at h ⊢
      have hcond : (x.2.2 = true ∧ seeP s' (o + q1) = 45 ∧ seeP s' (o + q1 + 1) ≠ 93) ↔ (x.2.2 = true ∧ seeP s q1 = 45 ∧ seeP s (q1 + 1) ≠ 93) := by
        rcases Nat.lt_or_ge q1 s.size with h3 | h3
        · rw [E.see q1 h3]
          exact and_congr Iff.rfl (and_congr Iff.rfl (not_congr (emb_ne93 E h3)))
        · have e : q1 = s.size := by omega
          rw [e, E.fin, seeP_end (Nat.le_refl _)]
          constructor
          · rintro ⟨_, a, _⟩; exact absurd a (by decide)
          · rintro ⟨_, a, _⟩; exact absurd a (by decide)
      by_cases c2 : x.2.2 = true ∧ seeP s q1 = 45 ∧ seeP s (q1 + 1) ≠ 93
      · rw [if_pos c2] at h
        rw [if_pos (hcond.2 c2)]
        have hq1 : q1 < s.size := seeP_lt (by rw [c2.2.1]; decide)
        cases ho2 : oneR s (q1 + 1) false with
        | bad k => rw [ho2] at h; cases h
        | ok y q2 =>
          rw [ho2] at h
          have hok2 := oneR_ok ho2
          have h9 := emb_one E ho2
          rw [show o + (q1 + 1) = o + q1 + 1 from rfl] at h9
          rw [h9]
          simp only at h ⊢
          by_cases c3 : y.2.2 = false ∨ y.2.1 < x.2.1
          · rw [if_pos c3] at h; cases h
          · rw [if_neg c3] at h ⊢
            exact emb_brL E n m q2 false _ c q (by omega) (by omega) (by omega) h
      · rw [if_neg c2] at h
        rw [if_neg (fun h => c2 (hcond.1 h))]
        exact emb_brL E n m q1 false _ c q (by omega) (by omega) (by omega) h
theorem emb_br (E : Emb s s' o) {fold : Bool} {p : Nat} {c : C4} {q : Nat} (hp : p ≤ s.size) (h : brR s fold p = .ok c q) : brR s' fold (o + p) = .ok c (o + q) := by
  have hs := E.sz
  have ht := E.take hp (b := 94) (by decide)
  have hb : brP s' (o + p) = o + brP s p := by
    unfold brP
    rw [ht]
    split <;> rfl
  have hbp : brP s p ≤ s.size := by
    unfold brP
    split
    · rename_i h; have := takeP_lt h; omega
    · exact hp
  unfold brR at h ⊢
  rw [ht, hb]
  cases h1 : brL s (s.size + 1 - brP s p) (brP s p) true C4.nil with
  | bad k => rw [h1] at h; cases h
  | ok c1 q1 =>
    rw [h1] at h
    rw [emb_brL E _ (s'.size + 1 - (o + brP s p)) _ true C4.nil c1 q1 hbp (by omega) (by omega) h1]
    unfold brEnd at h ⊢
    cases h
    rfl
theorem emb_atom (E : Emb s s' o) {alt alt' : Nat → Rs Pt} {fold : Bool} {p : Nat} {t : Pt} {q : Nat} (ha : ∀ t q, p < s.size → alt (p + 1) = .ok t q → alt' (o + (p + 1)) = .ok t (o + q)) (h : atomR alt s fold p = .ok t q) : atomR alt' s' fold (o + p) = .ok t (o + q) := by
  unfold atomR at h ⊢
  by_cases c1 : seeP s p < 32 ∨ 126 < seeP s p ∨ 0 ≤ stopI (seeP s p)
  · rw [if_pos c1] at h; cases h
  rw [if_neg c1] at h
  have hp : p < s.size := seeP_lt (fun e => c1 (.inl (by rw [e]; decide)))
  rw [E.see p hp, if_neg c1]
  by_cases c2 : seeP s p = 46
  · rw [if_pos c2] at h ⊢; cases h; rfl
  rw [if_neg c2] at h ⊢
  by_cases c3 : seeP s p = 94
  · rw [if_pos c3] at h ⊢; cases h; rfl
  rw [if_neg c3] at h ⊢
  by_cases c4 : seeP s p = 36
  · rw [if_pos c4] at h ⊢; cases h; rfl
  rw [if_neg c4] at h ⊢
  by_cases c5 : seeP s p = 40
  · rw [if_pos c5] at h ⊢
    cases h1 : alt (p + 1) with
    | bad n => rw [h1] at h; cases h
    | ok t1 q1 =>
      rw [h1] at h
      have h2 := ha t1 q1 hp h1
      rw [show o + (p + 1) = o + p + 1 from rfl] at h2
      rw [h2]
      simp only at h ⊢
      by_cases d : takeP s q1 41 = true
      · rw [if_pos d] at h
        rw [if_pos (E.take_t d)]
        cases h
        rfl
      · rw [if_neg d] at h; cases h
  rw [if_neg c5] at h ⊢
  by_cases c6 : seeP s p = 91
  · rw [if_pos c6] at h ⊢
    cases h1 : brR s fold (p + 1) with
    | bad n => rw [h1] at h; cases h
    | ok c q1 =>
      rw [h1] at h
      have h2 := emb_br E (by omega) h1
      rw [show o + (p + 1) = o + p + 1 from rfl] at h2
      rw [h2]
      cases h
      rfl
  rw [if_neg c6] at h ⊢
  by_cases c7 : seeP s p = 92
  · rw [if_pos c7] at h ⊢
    cases h1 : escR s p with
    | bad n => rw [h1] at h; cases h
    | ok x q1 =>
      rw [h1] at h
      rw [emb_esc E hp h1]
      cases h
      rfl
  rw [if_neg c7] at h ⊢
  cases h
  rfl
theorem emb_repL (E : Emb s s' o) : ∀ (n n' p : Nat) (t u : Pt) (q : Nat), p ≤ s.size → s.size + 1 ≤ p + n → s.size + 1 ≤ p + n' → repL s n p t = .ok u q → repL s' n' (o + p) t = .ok u (o + q)
  | 0, n', p, t, u, q, hp, h1, h2, h => by omega
  | n + 1, n', p, t, u, q, hp, h1, h2, h => by
    obtain ⟨m, rfl⟩ : ∃ m, n' = m + 1 := ⟨n' - 1, by omega⟩
    rw [repL] at h ⊢
    rw [E.take hp (by decide), E.take hp (by decide), E.take hp (by decide), E.take hp (by decide)]
    by_cases c1 : takeP s p 42 = true
    · rw [if_pos c1] at h ⊢
      have := takeP_lt c1
      exact emb_repL E n m (p + 1) _ u q (by omega) (by omega) (by omega) h
    rw [if_neg c1] at h ⊢
    by_cases c2 : takeP s p 43 = true
    · rw [if_pos c2] at h ⊢
      have := takeP_lt c2
      exact emb_repL E n m (p + 1) _ u q (by omega) (by omega) (by omega) h
    rw [if_neg c2] at h ⊢
    by_cases c3 : takeP s p 63 = true
    · rw [if_pos c3] at h ⊢
      have := takeP_lt c3
      exact emb_repL E n m (p + 1) _ u q (by omega) (by omega) (by omega) h
    rw [if_neg c3] at h ⊢
    by_cases c4 : takeP s p 123 = true
    · rw [if_pos c4] at h ⊢
      have := takeP_lt c4
      cases h1' : countR s (p + 1) with
      | bad k => rw [h1'] at h; cases h
      | ok x q1 =>
        rw [h1'] at h
        have h3 := emb_count E (by omega) h1'
        rw [show o + (p + 1) = o + p + 1 from rfl] at h3
        rw [h3]
        simp only at h ⊢
        have h4 := countR_ok (by omega) h1'
        exact emb_repL E n m q1 _ u q h4.2 (by omega) (by omega) h
    rw [if_neg c4] at h ⊢
    cases h
    rfl
theorem emb_rep (E : Emb s s' o) {alt alt' : Nat → Rs Pt} {fold : Bool} {p : Nat} {t : Pt} {q : Nat} (ho : ∀ t q, p < s.size → alt (p + 1) = .ok t q → p + 1 ≤ q ∧ q ≤ s.size) (ha : ∀ t q, p < s.size → alt (p + 1) = .ok t q → alt' (o + (p + 1)) = .ok t (o + q)) (h : repR alt s fold p = .ok t q) : repR alt' s' fold (o + p) = .ok t (o + q) := by
  have hs := E.sz
  unfold repR at h ⊢
  cases h1 : atomR alt s fold p with
  | bad k => rw [h1] at h; cases h
  | ok u q1 =>
    rw [h1] at h
    rw [emb_atom E ha h1]
    have h2 := atomR_ok ho h1
    exact emb_repL E _ _ q1 u t q h2.2 (by omega) (by omega) h
theorem emb_catL (E : Emb s s' o) {rep rep' : Nat → Rs Pt} (ho : ∀ p t q, p < s.size → rep p = .ok t q → p < q ∧ q ≤ s.size) (hr : ∀ p t q, p < s.size → rep p = .ok t q → rep' (o + p) = .ok t (o + q)) : ∀ (n n' p : Nat) (f u : Pt) (q : Nat), p ≤ s.size → s.size + 1 ≤ p + n → s.size + 1 ≤ p + n' → catL rep s n p f = .ok u q → catL rep' s' n' (o + p) f = .ok u (o + q)
  | 0, n', p, f, u, q, hp, h1, h2, h => by omega
  | n + 1, n', p, f, u, q, hp, h1, h2, h => by
    obtain ⟨m, rfl⟩ : ∃ m, n' = m + 1 := ⟨n' - 1, by omega⟩
    have hs := E.sz
    rw [catL] at h ⊢
    by_cases c1 : p < s.size ∧ seeP s p ≠ 124 ∧ seeP s p ≠ 41
    · rw [if_pos c1] at h
      rw [if_pos ⟨by omega, by rw [E.see p c1.1]; exact c1.2.1, by rw [E.see p c1.1]; exact c1.2.2⟩]
      cases h1' : rep p with
      | bad k => rw [h1'] at h; cases h
      | ok t q1 =>
        rw [h1'] at h
        rw [hr p t q1 c1.1 h1']
        simp only at h ⊢
        have h3 := ho p t q1 c1.1 h1'
        exact emb_catL E ho hr n m q1 _ u q h3.2 (by omega) (by omega) h
    · rw [if_neg c1] at h
      have hn : ¬ (o + p < s'.size ∧ seeP s' (o + p) ≠ 124 ∧ seeP s' (o + p) ≠ 41) := fun ⟨a, b, c⟩ => by
        rcases Nat.lt_or_ge p s.size with h3 | h3
        · rw [E.see p h3] at b c; exact c1 ⟨h3, b, c⟩
        · have e : p = s.size := by omega
          rw [e, E.fin] at c
          exact c rfl
      rw [if_neg hn]
      cases h
      rfl
theorem emb_cat (E : Emb s s' o) {rep rep' : Nat → Rs Pt} (ho : ∀ p t q, p < s.size → rep p = .ok t q → p < q ∧ q ≤ s.size) (hr : ∀ p t q, p < s.size → rep p = .ok t q → rep' (o + p) = .ok t (o + q)) {p : Nat} {t : Pt} {q : Nat} (hp : p ≤ s.size) (h : catR rep s p = .ok t q) : catR rep' s' (o + p) = .ok t (o + q) := by
  have hs := E.sz
  unfold catR at h ⊢
  cases h1 : catL rep s (s.size + 1 - p) p .nil with
  | bad k => rw [h1] at h; cases h
  | ok f q1 =>
    rw [h1] at h
    rw [emb_catL E ho hr _ (s'.size + 1 - (o + p)) p .nil f q1 hp (by omega) (by omega) h1]
    unfold catEnd at h ⊢
    cases h
    rfl
theorem emb_altL (E : Emb s s' o) {cat cat' : Nat → Rs Pt} (ho : ∀ p t q, p ≤ s.size → cat p = .ok t q → p ≤ q ∧ q ≤ s.size) (hr : ∀ p t q, p ≤ s.size → cat p = .ok t q → cat' (o + p) = .ok t (o + q)) : ∀ (n n' p : Nat) (f u : Pt) (q : Nat), p ≤ s.size → s.size + 1 ≤ p + n → s.size + 1 ≤ p + n' → altL cat s n p f = .ok u q → altL cat' s' n' (o + p) f = .ok u (o + q)
  | 0, n', p, f, u, q, hp, h1, h2, h => by omega
  | n + 1, n', p, f, u, q, hp, h1, h2, h => by
    obtain ⟨m, rfl⟩ : ∃ m, n' = m + 1 := ⟨n' - 1, by omega⟩
    rw [altL] at h ⊢
    rw [E.take hp (by decide)]
    by_cases c1 : takeP s p 124 = true
    · rw [if_pos c1] at h ⊢
      have hl := takeP_lt c1
      cases h1' : cat (p + 1) with
      | bad k => rw [h1'] at h; cases h
      | ok t q1 =>
        rw [h1'] at h
        have h9 := hr (p + 1) t q1 (by omega) h1'
        rw [show o + (p + 1) = o + p + 1 from rfl] at h9
        rw [h9]
        simp only at h ⊢
        have h3 := ho (p + 1) t q1 (by omega) h1'
        exact emb_altL E ho hr n m q1 _ u q h3.2 (by omega) (by omega) h
    · rw [if_neg c1] at h ⊢
      cases h
      rfl
theorem emb_altB (E : Emb s s' o) {cat cat' : Nat → Rs Pt} (ho : ∀ p t q, p ≤ s.size → cat p = .ok t q → p ≤ q ∧ q ≤ s.size) (hr : ∀ p t q, p ≤ s.size → cat p = .ok t q → cat' (o + p) = .ok t (o + q)) {p : Nat} {t : Pt} {q : Nat} (hp : p ≤ s.size) (h : altB cat s p = .ok t q) : altB cat' s' (o + p) = .ok t (o + q) := by
  have hs := E.sz
  unfold altB at h ⊢
  cases h1 : cat p with
  | bad k => rw [h1] at h; cases h
  | ok u q1 =>
    rw [h1] at h
    rw [hr p u q1 hp h1]
    simp only at h ⊢
    have h3 := ho p u q1 hp h1
    cases h5 : altL cat s (s.size + 1 - q1) q1 u with
    | bad k => rw [h5] at h; cases h
    | ok f q2 =>
      rw [h5] at h
      rw [emb_altL E ho hr _ (s'.size + 1 - (o + q1)) q1 u f q2 h3.2 (by omega) (by omega) h5]
      unfold altEnd at h ⊢
      cases h
      rfl
theorem emb_alt (E : Emb s s' o) (fold : Bool) : ∀ (n n' p : Nat) (t : Pt) (q : Nat), n ≤ n' → p ≤ s.size → altR s fold n p = .ok t q → altR s' fold n' (o + p) = .ok t (o + q)
  | 0, n', p, t, q, hn, hp, h => by cases h
  | n + 1, n', p, t, q, hn, hp, h => by
    obtain ⟨m, rfl⟩ : ∃ m, n' = m + 1 := ⟨n' - 1, by omega⟩
    rw [altR] at h ⊢
    have hro : ∀ p t q, p < s.size → repR (altR s fold n) s fold p = .ok t q → p < q ∧ q ≤ s.size := fun p t q hp h => repR_ok (fun t q hp h => altR_ok s fold n (p + 1) t q (by omega) h) h
    have hrr : ∀ p t q, p < s.size → repR (altR s fold n) s fold p = .ok t q → repR (altR s' fold m) s' fold (o + p) = .ok t (o + q) := fun p t q hp h => emb_rep E (fun t q hp h => altR_ok s fold n (p + 1) t q (by omega) h) (fun t q hp h => emb_alt E fold n m (p + 1) t q (by omega) (by omega) h) h
    exact emb_altB E (fun p t q hp h => catR_ok hro hp h) (fun p t q hp h => emb_cat E hro hrr hp h) hp h
end
end Go.Proofs.Ytclgnefeankbgaa.M
