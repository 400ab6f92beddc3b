/- Numbers put into bits of bytes, in plain Lean: what both Puts come to, and the statement BitsPuts. Conditions: the numbers are those of their kinds. -/
import Derived.Test.YtifalpoabgofkaaGx10
import Derived.Test.YtifalpoabgofkaaGx7
import Derived.Test.YtifalpoabgofkaaGx8
import Derived.Test.YtifalpoabgofkaaGx9
import Derived.Test.YtifalpoabgofkaaQ10
namespace Go.Proofs.Ytifalpoabgofkaa.Pure
open Go.RowKit Go.Proofs.Ytifalpoabgofkaa.G Go.Proofs.YtifalpoabgofkaaW.PrintWords Go.Proofs.YtifalpoabgofkaaW.PrintLast Hand
set_option linter.unusedVariables false

/-- The number that stands in the bits, the highest first. -/
def stood (n : Nat) (v : Int) (low : Bool) : Int := if low = true then turnV (n / 8) v else v
theorem turnV_bd (M : Nat) (v : Int) : 0 ≤ turnV M v ∧ turnV M v < 2 ^ (8 * M) := by
  have e : turnV M v = le (digs M v).reverse := by unfold turnV; rw [← be_reverse, List.reverse_reverse]
  have h := le_bd (digs M v).reverse (fun x hx => digs_byte M v x (List.mem_reverse.1 hx))
  rw [List.length_reverse, digs_len, p256] at h
  rw [e]
  exact h
/-- What a Put must come to: wrong place or size, wrong number, or the bytes with the number in them. -/
def PutOk (f : Nat → Option (List Int × Int)) (l : List Int) (a n v : Int) (low : Bool) : Prop :=
  if askE l a n low ≠ 0 then Ev f ([], askE l a n low) else if v < 0 ∨ 2 ^ n.toNat ≤ v then Ev f ([], 10) else ∃ R, Is R l a.toNat n.toNat (stood n.toNat v low) ∧ Ev f (R, 0)
theorem bits_put_ok {l : List Int} (hl : ∀ x ∈ l, 0 ≤ x ∧ x ≤ 255) (hn : l.length ≤ 140737488351232) {a n : Int} (ha : (Lit.int .i64 a).wf = true) (v : Int) (low : Bool) : PutOk (fun k => bits_Put.f k l a n v low) l a n v low := by
  have hask := bits_asked_ev l a n low hn ha
  unfold PutOk
  by_cases c : askE l a n low = 0
  · rw [if_neg (by exact not_not_intro c)]
    rw [c] at hask
    obtain ⟨h0, h1, h2, h3, h4⟩ := askE_ok c
    clear c
    obtain ⟨n, rfl⟩ := Int.eq_ofNat_of_zero_le h0
    obtain ⟨a, rfl⟩ := Int.eq_ofNat_of_zero_le h2
    rw [Int.toNat_natCast, Int.toNat_natCast]
    have j10 : Ev (fun k => bits_Put.j0 k l (a : Int) (n : Int) v low true) ([], 10) := Ev.step (f := fun _ => some ([], 10)) (fun k => by rw [bits_Put.j0, if_pos rfl]) (Ev.now _)
    have hs : shl .i64 1 (n : Int) = 2 ^ n := shl1 (by omega)
    by_cases c1 : v < 0
    · rw [if_pos (.inl c1)]
      exact Ev.bind hask (Ev.if_pos rfl (Ev.if_pos c1 j10))
    by_cases c2 : 2 ^ n ≤ v
    · rw [if_pos (.inr c2)]
      refine Ev.bind hask (Ev.if_pos rfl (Ev.if_neg c1 (Ev.if_pos h0 ?_)))
      rw [hs, decide_eq_true c2]
      exact j10
    rw [if_neg (fun h => h.elim c1 c2)]
    have key : ∀ w : Int, ∃ R, Is R l a n w ∧ Ev (fun k => bits_Put.j1 k l (a : Int) (n : Int) w) (R, 0) := fun w => by
      obtain ⟨R, hR, hev⟩ := bits_put_loop hn a n (by omega) w n l (Nat.le_refl _) rfl hl (fun q hq => by rw [_root_.if_neg (by omega)])
      refine ⟨R, hR, Ev.step (fun k => ?_) hev⟩
      rw [bits_Put.j1, if_pos (by simp; omega), w64 (n := (a : Int) + (n : Int)) (by omega) (by omega), w64 (by omega) (by omega), Nat.sub_self, Int.pow_zero, Int.ediv_one, List.nil_append]
      rfl
    cases low with
    | false =>
      obtain ⟨R, hR, hev⟩ := key v
      refine ⟨R, hR, Ev.bind hask (Ev.if_pos rfl (Ev.if_neg c1 (Ev.if_pos h0 ?_)))⟩
      rw [hs, decide_eq_false (by omega)]
      refine Ev.step (fun k => ?_) hev
      rw [bits_Put.j0, if_neg (by decide), if_neg (by decide)]
    | true =>
      obtain ⟨e1, e2⟩ := h4 rfl
      have e1 := mod8 e1
      have e2 := mod8 e2
      obtain ⟨R, hR, hev⟩ := key (turnV (n / 8) v)
      refine ⟨R, hR, Ev.bind hask (Ev.if_pos rfl (Ev.if_neg c1 (Ev.if_pos h0 ?_)))⟩
      rw [hs, decide_eq_false (by omega)]
      have ht := turnV_ev (v := v) (M := n / 8) (by omega) (by omega) (by rw [p256, ← e1]; omega)
      rw [← e1] at ht
      refine Ev.step (f := fun k => (bits_turned.f k v (n : Int)).bind fun t248 => (bits_Put.j1 k l (a : Int) (n : Int) t248)) (fun k => ?_) (Ev.bind ht hev)
      rw [bits_Put.j0, if_neg (by decide), if_pos rfl]
  · rw [if_pos c]
    exact Ev.bind hask (Ev.if_neg c (Ev.now _))
theorem ref_put_ok {l : List Int} (hl : ∀ x ∈ l, 0 ≤ x ∧ x ≤ 255) (hn : l.length ≤ 140737488351232) {a n : Int} (ha : (Lit.int .i64 a).wf = true) (v : Int) (low : Bool) : PutOk (fun k => wireglassref01_Put.f k l a n v low) l a n v low := by
  have hask := ref_asked_ev l a n low hn ha
  unfold PutOk
  by_cases c : askE l a n low = 0
  · rw [if_neg (by exact not_not_intro c)]
    rw [c] at hask
    obtain ⟨h0, h1, h2, h3, h4⟩ := askE_ok c
    clear c
    obtain ⟨n, rfl⟩ := Int.eq_ofNat_of_zero_le h0
    obtain ⟨a, rfl⟩ := Int.eq_ofNat_of_zero_le h2
    rw [Int.toNat_natCast, Int.toNat_natCast]
    have j10 : Ev (fun k => wireglassref01_Put.j0 k l (a : Int) (n : Int) v low true) ([], 10) := Ev.step (f := fun _ => some ([], 10)) (fun k => by rw [wireglassref01_Put.j0, if_pos rfl]) (Ev.now _)
    have hk : n ≤ IntKind.i64.bits := by rw [show IntKind.i64.bits = 64 from rfl]; omega
    have hs : shr .i64 v (n : Int) = v / 2 ^ n := shr_eq hk
    by_cases c1 : v < 0
    · rw [if_pos (.inl c1)]
      exact Ev.bind hask (Ev.if_pos rfl (Ev.if_pos c1 j10))
    by_cases c2 : 2 ^ n ≤ v
    · rw [if_pos (.inr c2)]
      refine Ev.bind hask (Ev.if_pos rfl (Ev.if_neg c1 (Ev.if_pos h0 ?_)))
      have hd : v / 2 ^ n ≠ 0 := fun h => by
        have := Int.le_ediv_of_mul_le (a := 1) (b := v) (c := 2 ^ n) (p2_pos n) (by omega)
        omega
      rw [hs, bne_iff_ne.mpr hd]
      exact j10
    rw [if_neg (fun h => h.elim c1 c2)]
    have hd : v / 2 ^ n = 0 := Int.ediv_eq_zero_of_lt (by omega) (by omega)
    have key : ∀ low w, (∃ R, Is R l a n w ∧ Ev (fun k => wireglassref01_Put.l0 k (a : Int) (n : Int) v low l ((0 : Nat) : Int)) (R, 0)) → ∃ R, Is R l a n w ∧ Ev (fun k => wireglassref01_Put.j0 k l (a : Int) (n : Int) v low false) (R, 0) := fun low w ⟨R, hR, hev⟩ => by
      refine ⟨R, hR, Ev.step (fun k => ?_) hev⟩
      rw [wireglassref01_Put.j0, if_neg (by decide), if_pos (by simp; omega), List.nil_append]
      rfl
    suffices ∃ R, Is R l a n (stood n v low) ∧ Ev (fun k => wireglassref01_Put.l0 k (a : Int) (n : Int) v low l ((0 : Nat) : Int)) (R, 0) by
      obtain ⟨R, hR, hev⟩ := key low _ this
      refine ⟨R, hR, Ev.bind hask (Ev.if_pos rfl (Ev.if_neg c1 (Ev.if_pos h0 ?_)))⟩
      rw [hs, hd]
      exact hev
    cases low with
    | false =>
      refine ref_put_loop hn a n (by omega) (by omega) v (by omega) false (fun q => q - a) v (fun q hq => by omega) (fun q hq => ?_) (fun j => a + j) (fun j hj => ⟨by omega, fun q hq => by omega⟩) ?_ n l 0 (by omega) rfl hl (fun q hq => by rw [_root_.if_neg (by omega)])
      · rw [show n - 1 - (q - a) = a + n - 1 - q by omega]
      · intro L L' j b r hj h1' h2' hb hbv h
        exact ref_step_high hn a n (by omega) (by omega) v (by omega) L L' j b r hj h1' h2' hb hbv h
    | true =>
      obtain ⟨e1, e2⟩ := h4 rfl
      have e1 := mod8 e1
      have e2 := mod8 e2
      unfold stood
      rw [if_pos rfl]
      clear h4 hs hk
      generalize n / 8 = M at *
      generalize a / 8 = A at *
      subst e1 e2
      have hv2 : v < 256 ^ M := by rw [p256]; omega
      refine ref_put_loop hn (8 * A) (8 * M) (by omega) (by omega) v (by omega) true (fun q => 8 * (M - 1 - (q - 8 * A) / 8) + (q - 8 * A) % 8) (turnV M v) (fun q hq => by clear hd c2 hv2; omega) (fun q hq => ?_) (fun j => 8 * A + 8 * (M - 1 - j / 8) + j % 8) (fun j hj => ⟨by clear hd c2 hv2; omega, fun q hq => by clear hd c2 hv2; omega⟩) ?_ (8 * M) l 0 (by omega) rfl hl (fun q hq => by rw [_root_.if_neg (by clear hd c2 hv2; omega)])
      · have := turnV_bit M v (by omega) hv2 (q - 8 * A) (by clear hd c2 hv2; omega)
        rw [show 8 * A + 8 * M - 1 - q = 8 * M - 1 - (q - 8 * A) by clear this hd c2 hv2; omega]
        exact this
      · intro L L' j b r hj h1' h2' hb hbv h
        exact ref_step_low hn A M (by clear hbv hd c2 hv2; omega) (by clear hbv hd c2 hv2; omega) v (by omega) L L' j b r hj h1' h2' hb hbv h
  · rw [if_pos c]
    exact Ev.bind hask (Ev.if_neg c (Ev.now _))
theorem put_same {f g : Nat → Option (List Int × Int)} {l : List Int} {a n v : Int} {low : Bool} (h1 : PutOk f l a n v low) (h2 : PutOk g l a n v low) : ∃ r, Ev f r ∧ Ev g r := by
  unfold PutOk at h1 h2
  by_cases c : askE l a n low ≠ 0
  · rw [if_pos c] at h1 h2; exact ⟨_, h1, h2⟩
  rw [if_neg c] at h1 h2
  by_cases c2 : v < 0 ∨ 2 ^ n.toNat ≤ v
  · rw [if_pos c2] at h1 h2; exact ⟨_, h1, h2⟩
  rw [if_neg c2] at h1 h2
  obtain ⟨R, hR, e⟩ := h1
  obtain ⟨R', hR', e'⟩ := h2
  rw [hR'.uniq hR] at e'
  exact ⟨_, e, e'⟩
theorem BitsPuts : wireglasslaw01_BitsPuts.Pure := by
  intro l a n v w hm hn hl ha _ _ _
  have hb := bytes_wf hl
  refine Ev.rounds (g := fun k => wireglasslaw01_BitsPuts.f k l a n v w) ?_
  unfold wireglasslaw01_BitsPuts.f
  by_cases c : (l.length : Int) > 20000
  · exact Ev.if_pos c known_b
  refine Ev.if_neg c ?_
  obtain ⟨r, e1, e2⟩ := put_same (bits_put_ok hb (by omega) (n := n) ha v (w == 1)) (ref_put_ok hb (by omega) ha v (w == 1))
  refine Ev.bind e1 (Ev.bind e2 ?_)
  simp only [same_bytes, Option.bind_some]
  exact known_b
end Go.Proofs.Ytifalpoabgofkaa.Pure
