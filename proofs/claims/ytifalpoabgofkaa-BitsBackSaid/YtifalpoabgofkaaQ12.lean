/- A number put into bits and taken out again, in plain Lean: the statement BitsBack. Conditions: the numbers are those of their kinds. -/
import Derived.Test.YtifalpoabgofkaaGx10
import Derived.Test.YtifalpoabgofkaaQ11
namespace Go.Proofs.Ytifalpoabgofkaa.Pure
open Go.RowKit Go.Proofs.Ytifalpoabgofkaa.G Go.Proofs.YtifalpoabgofkaaW.PrintWords Go.Proofs.YtifalpoabgofkaaW.PrintLast Hand
set_option linter.unusedVariables false

theorem le_inj : ∀ (xs ys : List Int), (∀ x ∈ xs, 0 ≤ x ∧ x ≤ 255) → (∀ x ∈ ys, 0 ≤ x ∧ x ≤ 255) → xs.length = ys.length → le xs = le ys → xs = ys
  | [], [], _, _, _, _ => rfl
  | [], _ :: _, _, _, h, _ => by simp at h
  | _ :: _, [], _, _, h, _ => by simp at h
  | c :: r, d :: s, h1, h2, hl, h => by
    have hc := h1 c (by simp)
    have hd := h2 d (by simp)
    rw [le, le] at h
    have := le_inj r s (fun x hx => h1 x (by simp [hx])) (fun x hx => h2 x (by simp [hx])) (by simpa using hl) (by omega)
    rw [this] at h ⊢
    rw [show c = d by omega]
theorem askE_len {l R : List Int} (h : R.length = l.length) (a n : Int) (low : Bool) : askE R a n low = askE l a n low := by unfold askE; rw [h]
/-- The number that stands there is taken out. -/
theorem get_put {l R : List Int} {a n : Nat} {v : Int} {low : Bool} (hask : askE l a n low = 0) (h0 : 0 ≤ v) (h1 : v < 2 ^ n) (h : Is R l a n (stood n v low)) : getV R a n low = (v, 0) := by
  obtain ⟨_, hn48, _, hfit, hlow⟩ := askE_ok hask
  unfold getV
  rw [askE_len h.1, if_pos hask, Int.toNat_natCast, Int.toNat_natCast]
  have hlen := h.1
  cases low with
  | false =>
    unfold stood at h
    rw [if_neg (by decide)] at h ⊢
    rw [Is.num h h0 h1 (by omega) n (Nat.le_refl _), Nat.sub_self, Int.pow_zero, Int.ediv_one]
  | true =>
    unfold stood at h
    rw [if_pos rfl] at h ⊢
    obtain ⟨e1, e2⟩ := hlow rfl
    have e1 := mod8 e1
    have e2 := mod8 e2
    clear hask hlow
    generalize n / 8 = M at *
    generalize a / 8 = A at *
    subst e1 e2
    have hv2 : v < 256 ^ M := by rw [p256]; exact h1
    have tb := turnV_bd M v
    have hN := Is.num h tb.1 tb.2 (by clear h1 hv2 tb; omega) (8 * M) (Nat.le_refl _)
    rw [Nat.sub_self, Int.pow_zero, Int.ediv_one, num_le h.2.1 A M (by clear h1 hv2 tb; omega)] at hN
    have hcl := cutL_len (l := R) (A := A) (M := M) (by clear h1 hv2 tb hN; omega)
    have e : turnV M v = le (digs M v).reverse := by unfold turnV; rw [← be_reverse, List.reverse_reverse]
    rw [e] at hN
    have hr := le_inj _ _ (fun x hx => h.2.1 x (cutL_mem x (List.mem_reverse.1 hx))) (fun x hx => digs_byte M v x (List.mem_reverse.1 hx)) (by rw [List.length_reverse, List.length_reverse, digs_len, hcl]) hN
    rw [List.reverse_inj.1 hr, digs_le M v h0 hv2]
theorem bit_get {L : List Int} (hL : ∀ x ∈ L, 0 ≤ x ∧ x ≤ 255) (hn : L.length ≤ 140737488351232) (p : Nat) (hp : p < 8 * L.length) : Ev (fun k => bits_Get.f k L (p : Int) 1 false) (bitv L p, 0) := by
  have hg := bits_get_ev hL hn (a := (p : Int)) (n := 1) (by simp [Lit.wf, IntKind.min, IntKind.max, IntKind.signed, IntKind.bits]; omega) false
  have hv : getV L (p : Int) 1 false = (bitv L p, 0) := by
    unfold getV
    rw [if_pos (by unfold askE; rw [if_neg (by simp), if_pos (by omega)]), if_neg (by decide), Int.toNat_natCast]
    show (num L p 1, (0 : Int)) = (bitv L p, 0)
    rw [num, num, Int.mul_zero, Int.zero_add]
    rfl
  rw [hv] at hg
  exact hg
theorem place_of {l : List Int} (z : Int) (hn : l.length ≤ 140737488351232) (h : l.length ≠ 0) : ∃ p : Nat, p < 8 * l.length ∧ Int.tmod (wrap64 (Int.tmod z (8 * (l.length : Int)) + 8 * (l.length : Int))) (8 * (l.length : Int)) = (p : Int) := by
  have p0 := Int.emod_nonneg z (show 8 * (l.length : Int) ≠ 0 by omega)
  have p1 := Int.emod_lt_of_pos z (show 0 < 8 * (l.length : Int) by omega)
  rw [low_mod (by omega) (by omega)]
  exact ⟨(z % (8 * (l.length : Int))).toNat, by omega, by omega⟩
theorem BitsBack : wireglasslaw01_BitsBack.Pure := by
  intro l a n v w z hm hn hl ha _ _ _ _
  have hb := bytes_wf hl
  refine Ev.rounds (g := fun k => wireglasslaw01_BitsBack.f k l a n v w z) ?_
  unfold wireglasslaw01_BitsBack.f
  by_cases c : (l.length : Int) > 20000
  · exact Ev.if_pos c known_b
  refine Ev.if_neg c ?_
  have hput := bits_put_ok hb (by omega) (n := n) ha v (w == 1)
  generalize (w == 1) = low at *
  unfold PutOk at hput
  by_cases c1 : askE l a n low ≠ 0
  · rw [if_pos c1] at hput
    exact Ev.bind hput (Ev.if_neg c1 known_b)
  rw [if_neg c1] at hput
  by_cases c2 : v < 0 ∨ 2 ^ n.toNat ≤ v
  · rw [if_pos c2] at hput
    exact Ev.bind hput (Ev.if_neg (by decide) known_b)
  rw [if_neg c2] at hput
  obtain ⟨R, hR, hev⟩ := hput
  have c1 := Classical.not_not.1 c1
  have hlen := hR.1
  have hget := bits_get_ev hR.2.1 (by omega) (a := a) (n := n) ha low
  obtain ⟨h0, h1, h2, h3, h4⟩ := askE_ok c1
  obtain ⟨n, rfl⟩ := Int.eq_ofNat_of_zero_le h0
  obtain ⟨a, rfl⟩ := Int.eq_ofNat_of_zero_le h2
  rw [Int.toNat_natCast] at c2 hR
  rw [Int.toNat_natCast] at hR
  rw [get_put c1 (by omega) (by omega) hR] at hget
  refine Ev.bind hev (Ev.if_pos rfl (Ev.bind hget (Ev.if_pos rfl (Ev.if_pos rfl (Ev.if_pos (by rw [hlen]) ?_)))))
  show Ev (fun k => wireglasslaw01_BitsBack.j0 k l z (a : Int) (n : Int) v R v 0 ((l.length : Int) == 0)) true
  by_cases ce : (l.length : Int) = 0
  · rw [beq_iff_eq.mpr ce]
    refine Ev.step (fun k => ?_) known_b
    rw [wireglasslaw01_BitsBack.j0, if_pos rfl, if_pos rfl, if_pos rfl, if_pos (by rw [hlen])]
  · rw [beq_eq_false_iff_ne.mpr ce]
    obtain ⟨p, hp8, em⟩ := place_of (l := l) z (by omega) (by omega)
    have e8 : wrap64 (8 * (l.length : Int)) = 8 * (l.length : Int) := by clear em; exact w64 (by omega) (by omega)
    have hpR : p < 8 * R.length := by rw [hlen]; exact hp8
    have hl1 : l.length ≤ 140737488351232 := by clear em e8; omega
    have hl2 : R.length ≤ 140737488351232 := by rw [hlen]; exact hl1
    have g1 := bit_get hb hl1 p hp8
    have g2 := bit_get hR.2.1 hl2 p hpR
    have hbit := hR.2.2 p hp8
    have ean : wrap64 ((a : Int) + (n : Int)) = (a : Int) + (n : Int) := by clear em e8 hbit; exact w64 (by omega) (by omega)
    have hm0 : ¬ 8 * (l.length : Int) = 0 := by clear em hbit e8 ean; omega
    refine Ev.step (fun k => by rw [wireglasslaw01_BitsBack.j0, if_neg (by decide), e8, if_neg hm0, em, ean]) (Ev.bind g1 (Ev.bind g2 (Ev.if_pos rfl (Ev.if_pos rfl ?_))))
    by_cases ci : a ≤ p ∧ p < a + n
    · by_cases cq : bitv l p = bitv R p
      · exact Ev.if_pos cq known_b
      · have i1 : (p : Int) ≥ (a : Int) := by clear em hbit cq e8 ean; omega
        have i2 : (p : Int) < (a : Int) + (n : Int) := by clear em hbit cq e8 ean; omega
        exact Ev.if_neg cq (Ev.if_pos i1 (Ev.if_pos i2 known_b))
    · rw [_root_.if_neg ci] at hbit
      exact Ev.if_pos hbit.symm known_b
end Go.Proofs.Ytifalpoabgofkaa.Pure
