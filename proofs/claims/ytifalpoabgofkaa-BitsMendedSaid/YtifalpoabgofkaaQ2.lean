/- The checks of layer 1 (bits) in plain Lean: the check of the internet, by a polynomial, by two sums; and that a mended check is the changed bytes' own. Conditions: the numbers are those of their kinds. -/
import Derived.Test.YtifalpoabgofkaaGx1
import Derived.Test.YtifalpoabgofkaaGx4
import Derived.Test.YtifalpoabgofkaaGx5
import Derived.Test.YtifalpoabgofkaaQ1
namespace Go.Proofs.Ytifalpoabgofkaa.Pure
open Go.RowKit Go.Proofs.Ytifalpoabgofkaa.G Go.Proofs.YtifalpoabgofkaaW.PrintWords Go.Proofs.YtifalpoabgofkaaW.PrintLast Hand
set_option linter.unusedVariables false

/-! ### the check of the internet -/
theorem fold_add {x y : Int} (hx : 0 ≤ x) (hy : 0 ≤ y) : fold (fold x + y) = fold (x + y) := by
  unfold fold
  by_cases h : x = 0
  · subst h; simp
  · rw [if_neg h, if_neg (by omega), if_neg (by omega)]
    omega
/-- The sum of the numbers of 16 bits; i: how many bytes stand ahead. -/
def tot : List Int → Nat → Int
  | [], _ => 0
  | c :: r, i => (if i % 2 = 0 then 256 * c else c) + tot r (i + 1)
theorem tot_bd : ∀ (l : List Int) (i : Nat), (∀ x ∈ l, 0 ≤ x ∧ x ≤ 255) → 0 ≤ tot l i ∧ tot l i ≤ 65280 * l.length
  | [], _, _ => by simp [tot]
  | c :: r, i, h => by
    have h1 := h c (by simp)
    have h2 := tot_bd r (i + 1) (fun x hx => h x (by simp [hx]))
    simp only [tot, List.length_cons]
    split <;> omega
theorem tot_set : ∀ (l : List Int) (i j : Nat) (v : Int) (h : j < l.length), tot (l.set j v) i = tot l i + (if (i + j) % 2 = 0 then 256 * (v - l[j]) else v - l[j])
  | [], _, _, _, h => by simp at h
  | c :: r, i, 0, v, _ => by
    simp only [List.set_cons_zero, tot, Nat.add_zero, List.getElem_cons_zero]
    split <;> omega
  | c :: r, i, j + 1, v, h => by
    have := tot_set r (i + 1) j v (by simpa using h)
    simp only [List.set_cons_succ, tot, List.getElem_cons_succ]
    rw [this, show i + 1 + j = i + (j + 1) by omega]
    split <;> split <;> omega
theorem tot_word : ∀ (l : List Int) (i j : Nat) (h : j + 1 < l.length), (∀ x ∈ l, 0 ≤ x ∧ x ≤ 255) → (i + j) % 2 = 0 → 256 * l[j] + l[j + 1] ≤ tot l i
  | [], _, _, h, _, _ => by simp at h
  | [_], _, _, h, _, _ => by simp at h
  | a :: b :: r, i, 0, _, hb, he => by
    have h2 := tot_bd r (i + 1 + 1) (fun x hx => hb x (by simp [hx]))
    simp only [tot, List.getElem_cons_zero, List.getElem_cons_succ, Nat.zero_add]
    rw [if_pos (by omega), if_neg (by omega)]
    omega
  | a :: b :: r, i, j + 1, h, hb, he => by
    have := tot_word (b :: r) (i + 1) j (by simpa using h) (fun x hx => hb x (by simp at hx ⊢; right; exact hx)) (by omega)
    have ha := hb a (by simp)
    simp only [List.getElem_cons_succ] at this ⊢
    rw [tot]
    split <;> omega
theorem sum_bits (l : List Int) (hl : ∀ x ∈ l, 0 ≤ x ∧ x ≤ 255) (hn : l.length ≤ 140737488351232) : ∀ (r p : List Int) (n : Int), l = p ++ r → 0 ≤ n → n ≤ 65535 → Ev (fun k => bits_Sum.l0 k n l (l.length : Int) (p.length : Int)) (65535 - fold (n + tot r p.length))
  | [], p, n, hp, h0, h1 => by
    refine Ev.step (f := fun _ => some (65535 - fold (n + tot [] p.length))) (fun k => ?_) (Ev.now _)
    rw [bits_Sum.l0, if_neg (by rw [hp]; simp), not16' h0 h1, tot, Int.add_zero, fold_low h0 h1]
  | c :: r, p, n, hp, h0, h1 => by
    have hc := hl c (by rw [hp]; simp)
    have hlt : (p.length : Int) < l.length := by rw [hp]; simp; omega
    have hrd : rd l (p.length : Int) = c := by rw [hp]; exact rd_mid p r c
    have ih := sum_bits l hl hn r (p ++ [c]) (fold (n + (if p.length % 2 = 0 then 256 * c else c))) (by rw [hp]; simp) (fold_bd (by split <;> omega)).1 (fold_bd (by split <;> omega)).2
    rw [fold_add (by split <;> omega) (tot_bd r _ (fun x hx => hl x (by rw [hp]; simp [hx]))).1, List.length_append, List.length_singleton] at ih
    have e : n + (if p.length % 2 = 0 then 256 * c else c) + tot r (p.length + 1) = n + tot (c :: r) p.length := by simp only [tot]; omega
    rw [e] at ih
    have hm : p.length % 2 = 0 → Int.tmod (p.length : Int) 2 = 0 := fun h => by rw [tmod_pos (by omega)]; omega
    have hm' : ¬ p.length % 2 = 0 → ¬ Int.tmod (p.length : Int) 2 = 0 := fun h => by rw [tmod_pos (by omega)]; omega
    have hpl : wrap64 ((p.length : Int) + 1) = ((p.length + 1 : Nat) : Int) := by rw [w64 (by omega) (by omega)]; omega
    by_cases ev : p.length % 2 = 0
    · rw [if_pos ev] at ih
      have hf := bits_folded_ev (n := n + 256 * c) (by omega) (by omega)
      refine Ev.step (f := fun k => (bits_folded.f k (n + 256 * c)).bind fun t => bits_Sum.l0 k t l (l.length : Int) ((p.length + 1 : Nat) : Int)) (fun k => ?_) (Ev.bind hf ih)
      rw [bits_Sum.l0, if_pos hlt, if_pos (by omega), if_pos hlt, if_pos (hm ev), hrd, w64 (n := c) (by omega) (by omega), w64 (n := c * 256) (by omega) (by omega), w64 (by omega) (by omega), hpl, Int.mul_comm c 256]
    · rw [if_neg ev] at ih
      have hf := bits_folded_ev (n := n + c) (by omega) (by omega)
      refine Ev.step (f := fun k => (bits_folded.f k (n + c)).bind fun t => bits_Sum.l0 k t l (l.length : Int) ((p.length + 1 : Nat) : Int)) (fun k => ?_) (Ev.bind hf ih)
      rw [bits_Sum.l0, if_pos hlt, if_pos (by omega), if_pos hlt, if_neg (hm' ev), hrd, w64 (n := c) (by omega) (by omega), w64 (by omega) (by omega), hpl]
theorem sum_ref (l : List Int) (hl : ∀ x ∈ l, 0 ≤ x ∧ x ≤ 255) (hn : l.length ≤ 140737488351232) : ∀ (r p : List Int) (n : Int), l = p ++ r → 0 ≤ n → n ≤ 65535 → Ev (fun k => wireglassref01_Sum.l0 k l n (p.length : Int)) (65535 - fold (n + tot r p.length))
  | [], p, n, hp, h0, h1 => by
    refine Ev.step (f := fun _ => some (65535 - fold (n + tot [] p.length))) (fun k => ?_) (Ev.now _)
    rw [wireglassref01_Sum.l0, if_neg (by rw [hp]; simp), w64 (by omega) (by omega), tot, Int.add_zero, fold_low h0 h1]
  | c :: r, p, n, hp, h0, h1 => by
    have hc := hl c (by rw [hp]; simp)
    have hlt : (p.length : Int) < l.length := by rw [hp]; simp; omega
    have hrd : rd l (p.length : Int) = c := by rw [hp]; exact rd_mid p r c
    have ih := sum_ref l hl hn r (p ++ [c]) (fold (n + (if p.length % 2 = 0 then 256 * c else c))) (by rw [hp]; simp) (fold_bd (by split <;> omega)).1 (fold_bd (by split <;> omega)).2
    rw [fold_add (by split <;> omega) (tot_bd r _ (fun x hx => hl x (by rw [hp]; simp [hx]))).1, List.length_append, List.length_singleton] at ih
    have e : n + (if p.length % 2 = 0 then 256 * c else c) + tot r (p.length + 1) = n + tot (c :: r) p.length := by simp only [tot]; omega
    rw [e] at ih
    have hm : p.length % 2 = 0 → Int.tmod (p.length : Int) 2 = 0 := fun h => by rw [tmod_pos (by omega)]; omega
    have hm' : ¬ p.length % 2 = 0 → ¬ Int.tmod (p.length : Int) 2 = 0 := fun h => by rw [tmod_pos (by omega)]; omega
    have hpl : wrap64 ((p.length : Int) + 1) = ((p.length + 1 : Nat) : Int) := by rw [w64 (by omega) (by omega)]; omega
    by_cases ev : p.length % 2 = 0
    · rw [if_pos ev] at ih
      have hf := ref_folded_ev (n := n + 256 * c) (by omega) (by omega)
      refine Ev.step (f := fun k => (wireglassref01_folded.f k (n + 256 * c)).bind fun t => wireglassref01_Sum.l0 k l t ((p.length + 1 : Nat) : Int)) (fun k => ?_) (Ev.bind hf ih)
      rw [wireglassref01_Sum.l0, if_pos hlt, if_pos (hm ev), if_pos (by omega), hrd, w64 (n := c) (by omega) (by omega), w64 (n := 256 * c) (by omega) (by omega), w64 (by omega) (by omega), hpl]
    · rw [if_neg ev] at ih
      have hf := ref_folded_ev (n := n + c) (by omega) (by omega)
      refine Ev.step (f := fun k => (wireglassref01_folded.f k (n + c)).bind fun t => wireglassref01_Sum.l0 k l t ((p.length + 1 : Nat) : Int)) (fun k => ?_) (Ev.bind hf ih)
      rw [wireglassref01_Sum.l0, if_pos hlt, if_neg (hm' ev), if_pos (by omega), hrd, w64 (n := c) (by omega) (by omega), w64 (by omega) (by omega), hpl]
def sumV (l : List Int) : Int := 65535 - fold (tot l 0)
theorem bits_sum_ev {l : List Int} (hl : ∀ x ∈ l, 0 ≤ x ∧ x ≤ 255) (hn : l.length ≤ 140737488351232) : Ev (fun k => bits_Sum.f k l) (sumV l) := by
  have := sum_bits l hl hn l [] 0 rfl (by omega) (by omega)
  rw [Int.zero_add] at this
  exact this
theorem ref_sum_ev {l : List Int} (hl : ∀ x ∈ l, 0 ≤ x ∧ x ≤ 255) (hn : l.length ≤ 140737488351232) : Ev (fun k => wireglassref01_Sum.f k l) (sumV l) := by
  have := sum_ref l hl hn l [] 0 rfl (by omega) (by omega)
  rw [Int.zero_add] at this
  exact this
theorem bytes_of {l : List Int} (h : ∀ x ∈ l, (Lit.int .u8 x).wf = true) : ∀ x ∈ l, 0 ≤ x ∧ x ≤ 255 := fun x hx => wf8 (h x hx)
end Go.Proofs.Ytifalpoabgofkaa.Pure
