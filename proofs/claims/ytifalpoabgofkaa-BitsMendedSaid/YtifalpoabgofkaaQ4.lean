/- The statement BitsMended in plain Lean: the mended check of bytes is that of the bytes with another number at an even place. Conditions: the numbers are those of their kinds. -/
import Derived.Test.YtifalpoabgofkaaGx1
import Derived.Test.YtifalpoabgofkaaGx4
import Derived.Test.YtifalpoabgofkaaQ2
namespace Go.Proofs.Ytifalpoabgofkaa.Pure
open Go.RowKit Go.Proofs.Ytifalpoabgofkaa.G Go.Proofs.YtifalpoabgofkaaW.PrintWords Go.Proofs.YtifalpoabgofkaaW.PrintLast Hand
set_option linter.unusedVariables false

theorem fold_shift {x : Int} (h : 0 ≤ x) : (0 < x → fold (x + 65535) = fold x) ∧ (x = 0 → fold (x + 65535) = 65535 ∧ fold x = 0) := by
  unfold fold
  constructor
  · intro h; rw [if_neg (by omega), if_neg (by omega)]; omega
  · intro h; rw [if_neg (by omega), if_pos h]; omega
theorem mended_core (l : List Int) (hl : ∀ x ∈ l, 0 ≤ x ∧ x ≤ 255) (j : Nat) (hj : j + 1 < l.length) (he : j % 2 = 0) (now : Int) (h0 : 0 ≤ now) (h1 : now < 65536) :
    mendV (sumV l) (256 * l[j] + l[j + 1]) now = sumV ((l.set j (now / 256)).set (j + 1) (now % 256)) ∨
    (mendV (sumV l) (256 * l[j] + l[j + 1]) now = 0 ∧ sumV ((l.set j (now / 256)).set (j + 1) (now % 256)) = 65535) := by
  have ha := hl l[j] (List.getElem_mem _)
  have hb := hl l[j + 1] (List.getElem_mem _)
  have ht := tot_word l 0 j hj hl (by omega)
  have hs : tot ((l.set j (now / 256)).set (j + 1) (now % 256)) 0 = tot l 0 - (256 * l[j] + l[j + 1]) + now := by
    rw [tot_set _ 0 (j + 1) _ (by simpa using hj), tot_set _ 0 j _ (by omega), List.getElem_set_ne (by omega), if_pos (by omega), if_neg (by omega)]
    omega
  have hf := fold_bd (n := tot l 0) (by omega)
  generalize l[j] = a at *
  generalize l[j + 1] = b at *
  unfold mendV sumV
  rw [hs]
  generalize tot l 0 = T at *
  have e : 65535 - (65535 - fold T) % 65536 + (65535 - (256 * a + b) % 65536) + now % 65536 = fold T + (65535 - (256 * a + b) + now) := by omega
  rw [e, fold_add (by omega) (by omega), show T + (65535 - (256 * a + b) + now) = (T - (256 * a + b) + now) + 65535 by omega]
  obtain ⟨f1, f2⟩ := fold_shift (x := T - (256 * a + b) + now) (by omega)
  rcases Int.lt_or_eq_of_le (show 0 ≤ T - (256 * a + b) + now by omega) with h | h
  · left; rw [f1 h]
  · right; obtain ⟨g1, g2⟩ := f2 h.symm; rw [g1, g2]; decide
theorem sumV_bd {l : List Int} (hl : ∀ x ∈ l, 0 ≤ x ∧ x ≤ 255) : 0 ≤ sumV l ∧ sumV l ≤ 65535 := by
  have := fold_bd (tot_bd l 0 hl).1
  unfold sumV
  omega
theorem mem_set2 {l : List Int} (hl : ∀ x ∈ l, 0 ≤ x ∧ x ≤ 255) {i : Nat} {v : Int} (hv : 0 ≤ v ∧ v ≤ 255) : ∀ x ∈ l.set i v, 0 ≤ x ∧ x ≤ 255 := by
  intro x hx
  rcases List.mem_or_eq_of_mem_set hx with h | h
  · exact hl x h
  · rw [h]; exact hv
theorem wf_small {n : Int} (h0 : 0 ≤ n) (h1 : n ≤ 9223372036854775807) : (Lit.int .i64 n).wf = true := by
  simp [Lit.wf, IntKind.min, IntKind.max, IntKind.signed, IntKind.bits]
  omega
theorem mended_j0 (l : List Int) (x1 x2 : Int) (hl : ∀ x ∈ l, 0 ≤ x ∧ x ≤ 255) (h2 : 2 ≤ l.length) (hn : l.length ≤ 20000) : Ev (fun k => wireglasslaw01_BitsMended.j0 k l x1 x2 false) true := by
  have hH : wrap64 ((l.length : Int) / 2) = (l.length : Int) / 2 := w64 (by omega) (by omega)
  have hpos : (0 : Int) < (l.length : Int) / 2 := by omega
  have hlow : Int.tmod (wrap64 (Int.tmod x1 ((l.length : Int) / 2) + (l.length : Int) / 2)) ((l.length : Int) / 2) = x1 % ((l.length : Int) / 2) := low_mod hpos (by omega)
  have hlow2 : Int.tmod (wrap64 (Int.tmod x2 65536 + 65536)) 65536 = x2 % 65536 := low_mod (by decide) (by decide)
  have hr0 := Int.emod_nonneg x1 (show (l.length : Int) / 2 ≠ 0 by omega)
  have hr1 := Int.emod_lt_of_pos x1 hpos
  obtain ⟨q, hq⟩ := Int.eq_ofNat_of_zero_le hr0
  rw [hq] at hr1 hlow
  have hA : wrap64 ((q : Int) * 2) = ((2 * q : Nat) : Int) := by rw [w64 (by omega) (by omega)]; omega
  have hA1 : wrap64 (((2 * q : Nat) : Int) + 1) = ((2 * q + 1 : Nat) : Int) := by rw [w64 (by omega) (by omega)]; omega
  have hj : 2 * q + 1 < l.length := by omega
  have hnow0 : 0 ≤ x2 % 65536 := by omega
  have hnow1 : x2 % 65536 < 65536 := by omega
  have hv1 : wrap64 (Int.tdiv (x2 % 65536) 256) % 256 = x2 % 65536 / 256 := by rw [tdiv_pos hnow0, w64 (by omega) (by omega)]; omega
  have hv2 : Int.tmod (x2 % 65536) 256 % 256 = x2 % 65536 % 256 := by rw [tmod_pos hnow0]; omega
  have ha := hl l[2 * q] (List.getElem_mem _)
  have hb := hl l[2 * q + 1] (List.getElem_mem _)
  have hw : wrap64 (wrap64 (256 * wrap64 (rd l ((2 * q : Nat) : Int))) + wrap64 (rd l ((2 * q + 1 : Nat) : Int))) = 256 * l[2 * q] + l[2 * q + 1] := by
    rw [rd_at (by omega), rd_at hj, w64 (n := l[2 * q]) (by omega) (by omega), w64 (n := 256 * l[2 * q]) (by omega) (by omega), w64 (n := l[2 * q + 1]) (by omega) (by omega), w64 (by omega) (by omega)]
  have hset := mem_set2 (mem_set2 hl (i := 2 * q) (v := x2 % 65536 / 256) (by omega)) (i := 2 * q + 1) (v := x2 % 65536 % 256) (by omega)
  have hlen : ((l.set (2 * q) (x2 % 65536 / 256)).set (2 * q + 1) (x2 % 65536 % 256)).length = l.length := by simp
  have hs1 := bits_sum_ev hl (by omega)
  have hs2 := bits_sum_ev hset (by omega)
  have hb1 := sumV_bd hl
  have hb2 := sumV_bd hset
  have hm := mend_bits (a := sumV l) (b := 256 * l[2 * q] + l[2 * q + 1]) (c := x2 % 65536) (wf_small hb1.1 (by omega)) (wf_small (by omega) (by omega)) (wf_small hnow0 (by omega))
  have hcore := mended_core l hl (2 * q) hj (by omega) (x2 % 65536) hnow0 hnow1
  have c1 : ¬ (l.length : Int) / 2 = 0 := by omega
  have c2 : ([] : List Int).length + l.length < 140737488355328 := by simp; omega
  have c3 : (0 : Int) ≤ ((2 * q : Nat) : Int) := by omega
  have c4 : ((2 * q : Nat) : Int) < (l.length : Int) := by omega
  have c5 : (0 : Int) ≤ ((2 * q + 1 : Nat) : Int) := by omega
  have c6 : ((2 * q + 1 : Nat) : Int) < (l.length : Int) := by omega
  have sw : ∀ z : Int, (Lit.int .i64 z).wf = true → True := fun _ _ => trivial
  have hprod : mendV (sumV l) (256 * l[2 * q] + l[2 * q + 1]) (x2 % 65536) = 0 → wrap64 (mendV (sumV l) (256 * l[2 * q] + l[2 * q + 1]) (x2 % 65536) * sumV ((l.set (2 * q) (x2 % 65536 / 256)).set (2 * q + 1) (x2 % 65536 % 256))) = 0 := fun h => by rw [h, Int.zero_mul]; exact w64 (by omega) (by omega)
  have hsum : mendV (sumV l) (256 * l[2 * q] + l[2 * q + 1]) (x2 % 65536) = 0 → sumV ((l.set (2 * q) (x2 % 65536 / 256)).set (2 * q + 1) (x2 % 65536 % 256)) = 65535 → wrap64 (mendV (sumV l) (256 * l[2 * q] + l[2 * q + 1]) (x2 % 65536) + sumV ((l.set (2 * q) (x2 % 65536 / 256)).set (2 * q + 1) (x2 % 65536 % 256))) = 65535 := fun h h' => by rw [h, h', Int.zero_add]; exact w64 (by omega) (by omega)
  have hunf : ∀ k, wireglasslaw01_BitsMended.j0 (k + 1) l x1 x2 false = (bits_Sum.f k l).bind fun t1 => (bits_Mend.f k t1 (256 * l[2 * q] + l[2 * q + 1]) (x2 % 65536)).bind fun t2 => (bits_Sum.f k ((l.set (2 * q) (x2 % 65536 / 256)).set (2 * q + 1) (x2 % 65536 % 256))).bind fun t3 =>
      if t2 = t3 then ((wireglasslaw01_known.f k).bind fun t => some t) else if wrap64 (t2 + t3) = 65535 then (if wrap64 (t2 * t3) = 0 then ((wireglasslaw01_known.f k).bind fun t => some t) else some false) else some false := fun k => by
    rw [wireglasslaw01_BitsMended.j0, if_neg (by decide)]
    simp only [hH, hlow, hlow2, hA, hA1, hv1, hv2, List.nil_append, Option.bind_some, Int.toNat_natCast]
    rw [if_neg c1, if_pos c2, if_pos c3, if_pos c4, if_pos c5, if_pos c6]
    simp only [if_pos c4, if_pos c6, hw]
  refine Ev.step hunf (Ev.bind hs1 (Ev.bind hm (Ev.bind hs2 ?_)))
  rcases hcore with h | ⟨h, h'⟩
  · exact Ev.if_pos h known_b
  · exact Ev.if_neg (by rw [h, h']; decide) (Ev.if_pos (hsum h h') (Ev.if_pos (hprod h) known_b))
theorem BitsMended : wireglasslaw01_BitsMended.Pure := by
  intro l a1 a2 hm hn hl _ _
  have hb := bytes_of hl
  have hk : Ev (fun k => wireglasslaw01_BitsMended.j0 k l a1 a2 true) true := Ev.step (f := fun k => (wireglasslaw01_known.f k).bind fun t => some t) (fun k => by rw [wireglasslaw01_BitsMended.j0, if_pos rfl]) known_b
  refine Ev.rounds (g := fun k => wireglasslaw01_BitsMended.f k l a1 a2) ?_
  unfold wireglasslaw01_BitsMended.f
  by_cases c : (l.length : Int) > 20000
  · exact Ev.if_pos c hk
  · refine Ev.if_neg c ?_
    by_cases c2 : (l.length : Int) < 2
    · rw [decide_eq_true c2]; exact hk
    · rw [decide_eq_false c2]; exact mended_j0 l a1 a2 hb (by omega) (by omega)
end Go.Proofs.Ytifalpoabgofkaa.Pure
