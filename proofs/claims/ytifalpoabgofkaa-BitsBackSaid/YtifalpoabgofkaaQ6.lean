/- Numbers whose bytes stand the other way round, in plain Lean: what Get comes to in the program and in the reference, and the statement BitsGets. Conditions: the numbers are those of their kinds. -/
import Derived.Test.YtifalpoabgofkaaGx1
import Derived.Test.YtifalpoabgofkaaGx2
import Derived.Test.YtifalpoabgofkaaGx3
import Derived.Test.YtifalpoabgofkaaQ5
namespace Go.Proofs.Ytifalpoabgofkaa.Pure
open Go.RowKit Go.Proofs.Ytifalpoabgofkaa.G Go.Proofs.YtifalpoabgofkaaW.PrintWords Go.Proofs.YtifalpoabgofkaaW.PrintLast Hand
set_option linter.unusedVariables false

/-- The number of bytes, the highest one first. -/
def be : List Int → Int → Int
  | [], acc => acc
  | c :: r, acc => be r (256 * acc + c)
/-- The number of bytes, the lowest one first. -/
def le : List Int → Int
  | [] => 0
  | c :: r => 256 * le r + c
theorem be_snoc : ∀ (xs : List Int) (c acc : Int), be (xs ++ [c]) acc = 256 * be xs acc + c
  | [], _, _ => rfl
  | _ :: r, c, _ => be_snoc r c _
theorem be_reverse : ∀ xs : List Int, be xs.reverse 0 = le xs
  | [] => rfl
  | c :: r => by rw [List.reverse_cons, be_snoc, be_reverse r, le]
theorem le_bd : ∀ (xs : List Int), (∀ x ∈ xs, 0 ≤ x ∧ x ≤ 255) → 0 ≤ le xs ∧ le xs < 256 ^ xs.length
  | [], _ => by simp [le]
  | c :: r, h => by
    have h1 := h c (by simp)
    have h2 := le_bd r (fun x hx => h x (by simp [hx]))
    rw [le, List.length_cons, Int.pow_succ]
    omega
theorem p256 (m : Nat) : (256 : Int) ^ m = 2 ^ (8 * m) := by
  induction m with
  | zero => rfl
  | succ m ih => rw [Int.pow_succ, ih, show 8 * (m + 1) = 8 * m + 8 by omega, Int.pow_add]; rfl
theorem num8 {l : List Int} (hl : ∀ x ∈ l, 0 ≤ x ∧ x ≤ 255) (a n : Nat) (h : (a + n) % 8 = 0) : num l a (n + 8) = 256 * num l a n + rd l (((a + n) / 8 : Nat) : Int) := by
  have hb := rd_byte hl (((a + n) / 8 : Nat) : Int)
  have e : ∀ j : Nat, j < 8 → bitv l (a + (n + j)) = rd l (((a + n) / 8 : Nat) : Int) / 2 ^ (7 - j) % 2 := fun j hj => by
    unfold bitv
    rw [show (a + (n + j)) / 8 = (a + n) / 8 by omega, show (a + (n + j)) % 8 = j by omega]
  have e0 := e 0 (by omega); have e1 := e 1 (by omega); have e2 := e 2 (by omega); have e3 := e 3 (by omega)
  have e4 := e 4 (by omega); have e5 := e 5 (by omega); have e6 := e 6 (by omega); have e7 := e 7 (by omega)
  simp only [Nat.add_zero] at e0
  simp only [num]
  rw [e0, show a + (n + 1) = a + (n + 1) from rfl, e1, e2, e3, e4, e5, e6, e7]
  generalize rd l (((a + n) / 8 : Nat) : Int) = c at *
  generalize num l a n = v
  rw [show (2 : Int) ^ (7 - 0) = 128 from rfl, show (2 : Int) ^ (7 - 1) = 64 from rfl, show (2 : Int) ^ (7 - 2) = 32 from rfl, show (2 : Int) ^ (7 - 3) = 16 from rfl, show (2 : Int) ^ (7 - 4) = 8 from rfl, show (2 : Int) ^ (7 - 5) = 4 from rfl, show (2 : Int) ^ (7 - 6) = 2 from rfl, show (2 : Int) ^ (7 - 7) = 1 from rfl]
  clear e e0 e1 e2 e3 e4 e5 e6 e7
  omega
/-- The bytes from A on, M of them. -/
def cutL (l : List Int) (A M : Nat) : List Int := (l.take (A + M)).drop A
theorem cutL_len {l : List Int} {A M : Nat} (h : A + M ≤ l.length) : (cutL l A M).length = M := by unfold cutL; rw [List.length_drop, List.length_take]; omega
theorem cutL_succ {l : List Int} {A M : Nat} (h : A + (M + 1) ≤ l.length) : cutL l A (M + 1) = cutL l A M ++ [rd l ((A + M : Nat) : Int)] := by
  unfold cutL
  rw [show A + (M + 1) = (A + M) + 1 by omega, List.take_succ_eq_append_getElem (by omega), List.drop_append_of_le_length (by rw [List.length_take]; omega), rd_at (by omega)]
theorem cutL_mem {l : List Int} {A M : Nat} : ∀ x ∈ cutL l A M, x ∈ l := fun x hx => List.mem_of_mem_take (List.mem_of_mem_drop hx)
theorem num_le {l : List Int} (hl : ∀ x ∈ l, 0 ≤ x ∧ x ≤ 255) (A : Nat) : ∀ M : Nat, A + M ≤ l.length → num l (8 * A) (8 * M) = le (cutL l A M).reverse
  | 0, _ => by
    have : cutL l A 0 = [] := List.length_eq_zero_iff.1 (by unfold cutL; rw [List.length_drop, List.length_take]; omega)
    rw [this]; rfl
  | M + 1, h => by
    have ih := num_le hl A M (by omega)
    rw [show 8 * (M + 1) = 8 * M + 8 by omega, num8 hl _ _ (by omega), ih, cutL_succ h, List.reverse_append, show (8 * A + 8 * M) / 8 = A + M by omega]
    rfl
theorem and255 (x : Int) : Go.bits .and .i64 x 255 = x % 256 := and_i64_mask x 8 (by decide)
theorem or8 {x y : Int} (hx0 : 0 ≤ x) (hx : x < 36028797018963968) (hy0 : 0 ≤ y) (hy : y ≤ 255) : Go.bits .or .i64 (wrap64 (x * 256)) y = 256 * x + y := by
  rw [w64 (by omega) (by omega), or_i64 _ _ (by omega) (by omega) hy0 (by omega)]
  obtain ⟨a, rfl⟩ := Int.eq_ofNat_of_zero_le hx0
  obtain ⟨b, rfl⟩ := Int.eq_ofNat_of_zero_le hy0
  have e := Nat.two_pow_add_eq_or_of_lt (i := 8) (b := b) (by omega) a
  rw [show ((a : Int) * 256).toNat = 2 ^ 8 * a by omega, Int.toNat_natCast, ← e]
  omega
theorem turned_loop (m : Nat) (hm : m ≤ 6) (zs : List Int) : ∀ (j : Nat) (out : Int), (∀ x ∈ zs, 0 ≤ x ∧ x ≤ 255) → j + zs.length = m → 0 ≤ out → out < 256 ^ j → Ev (fun k => bits_turned.l0 k (le zs) out (m : Int) (j : Int)) (be zs out) := by
  induction zs with
  | nil =>
    intro j out _ hj _ _
    refine Ev.step (f := fun _ => some out) (fun k => ?_) (Ev.now _)
    rw [bits_turned.l0, if_neg (by simp at hj; omega)]
  | cons c r ih =>
    intro j out hz hj h0 h1
    have hc := hz c (by simp)
    have hlen : (c :: r).length = r.length + 1 := rfl
    have h256 : (256 : Int) ^ j ≤ 256 ^ 5 := by rw [p256, p256]; exact p2_le (by omega)
    have e5 : (256 : Int) ^ 5 = 1099511627776 := by decide
    have ih := ih (j + 1) (256 * out + c) (fun x hx => hz x (by simp [hx])) (by omega) (by omega) (by rw [Int.pow_succ]; omega)
    have e1 : le (c :: r) / 256 = le r := by rw [le]; omega
    have e2 : le (c :: r) % 256 = c := by rw [le]; omega
    have ej : wrap64 ((j : Int) + 1) = ((j + 1 : Nat) : Int) := by rw [w64 (by omega) (by omega)]; omega
    refine Ev.step (fun k => ?_) ih
    rw [bits_turned.l0, if_pos (by omega), e1, and255, e2, ej, or8 h0 (by omega) hc.1 hc.2]
theorem turned_ev {zs : List Int} {m : Nat} (hz : ∀ x ∈ zs, 0 ≤ x ∧ x ≤ 255) (hm : zs.length = m) (h6 : m ≤ 6) : Ev (fun k => bits_turned.f k (le zs) ((8 * m : Nat) : Int)) (be zs 0) := by
  have h := turned_loop m h6 zs 0 0 hz (by omega) (by omega) (by decide)
  refine Ev.congr (fun k => ?_) h
  unfold bits_turned.f
  rw [tdiv_pos (by omega), w64 (by omega) (by omega), show (((8 * m : Nat) : Int)) / 8 = (m : Int) by omega]
  rfl
theorem rturned_loop (l : List Int) (hn : l.length ≤ 140737488351232) : ∀ d : Nat, d ≤ l.length → Ev (fun k => wireglassref01_turned.l0 k l (l.drop d).reverse ((d : Int) - 1)) l.reverse
  | 0, _ => by
    refine Ev.step (f := fun _ => some l.reverse) (fun k => ?_) (Ev.now _)
    rw [wireglassref01_turned.l0, if_neg (by omega), List.drop_zero]
  | d + 1, h => by
    have ih := rturned_loop l hn d (by omega)
    refine Ev.step (fun k => ?_) ih
    have e : ((d + 1 : Nat) : Int) - 1 = (d : Int) := by omega
    rw [e, wireglassref01_turned.l0, if_pos (by omega), if_pos (by omega), if_pos (by omega), if_pos (by rw [List.length_reverse, List.length_drop]; omega), w64 (by omega) (by omega), rd_at (by omega)]
    rw [List.drop_eq_getElem_cons (show d < l.length by omega), List.reverse_cons]
theorem rturned_ev {l : List Int} (hn : l.length ≤ 140737488351232) : Ev (fun k => wireglassref01_turned.f k l) l.reverse := by
  have h := rturned_loop l hn l.length (Nat.le_refl _)
  refine Ev.congr (fun k => ?_) h
  unfold wireglassref01_turned.f
  rw [w64 (by omega) (by omega), List.drop_length]
  rfl
/-- What Get gives. -/
def getV (l : List Int) (a n : Int) (low : Bool) : Int × Int :=
  if askE l a n low = 0 then (if low = true then (le (cutL l (a.toNat / 8) (n.toNat / 8)), 0) else (num l a.toNat n.toNat, 0)) else (0, askE l a n low)
theorem mod8 {n : Nat} (h : Int.tmod (n : Int) 8 = 0) : n = 8 * (n / 8) := by rw [tmod_pos (by omega)] at h; omega
theorem bits_get_ev {l : List Int} (hl : ∀ x ∈ l, 0 ≤ x ∧ x ≤ 255) (hn : l.length ≤ 140737488351232) {a n : Int} (ha : (Lit.int .i64 a).wf = true) (low : Bool) : Ev (fun k => bits_Get.f k l a n low) (getV l a n low) := by
  refine Ev.bind (bits_asked_ev l a n low hn ha) ?_
  unfold getV
  by_cases c : askE l a n low = 0
  · obtain ⟨h0, h1, h2, h3, h4⟩ := askE_ok c
    rw [if_pos c]
    refine Ev.if_pos c ?_
    obtain ⟨m, rfl⟩ := Int.eq_ofNat_of_zero_le h0
    obtain ⟨b, rfl⟩ := Int.eq_ofNat_of_zero_le h2
    rw [Int.toNat_natCast, Int.toNat_natCast]
    refine get_loop hl hn b m (by omega) (by omega) low _ ?_ m 0 (by omega)
    cases low with
    | false => exact Ev.if_neg (by decide) (Ev.now _)
    | true =>
      rw [if_pos rfl]
      refine Ev.if_pos rfl ?_
      obtain ⟨e1, e2⟩ := h4 rfl
      have e1 := mod8 e1
      have e2 := mod8 e2
      generalize m / 8 = M at *
      generalize b / 8 = B at *
      subst e1 e2
      have hcl := cutL_len (l := l) (A := B) (M := M) (by omega)
      have ht := turned_ev (zs := (cutL l B M).reverse) (m := M) (fun x hx => hl x (cutL_mem x (List.mem_reverse.1 hx))) (by rw [List.length_reverse, hcl]) (by omega)
      rw [be_reverse, ← num_le hl B M (by omega)] at ht
      exact Ev.bind ht (Ev.now _)
  · rw [if_neg c]
    exact Ev.if_neg c (Ev.now _)
theorem ref_get_ev {l : List Int} (hl : ∀ x ∈ l, 0 ≤ x ∧ x ≤ 255) (hn : l.length ≤ 140737488351232) {a n : Int} (ha : (Lit.int .i64 a).wf = true) (low : Bool) : Ev (fun k => wireglassref01_Get.f k l a n low) (getV l a n low) := by
  refine Ev.bind (ref_asked_ev l a n low hn ha) ?_
  unfold getV
  by_cases c : askE l a n low = 0
  · obtain ⟨h0, h1, h2, h3, h4⟩ := askE_ok c
    rw [if_pos c]
    refine Ev.if_pos c ?_
    obtain ⟨m, rfl⟩ := Int.eq_ofNat_of_zero_le h0
    obtain ⟨b, rfl⟩ := Int.eq_ofNat_of_zero_le h2
    rw [Int.toNat_natCast, Int.toNat_natCast]
    cases low with
    | false =>
      rw [if_neg (by decide)]
      exact Ev.if_neg (by decide) (Ev.bind (number_ev hl hn b m (by omega) (by omega)) (Ev.now _))
    | true =>
      rw [if_pos rfl]
      refine Ev.if_pos rfl ?_
      obtain ⟨e1, e2⟩ := h4 rfl
      have e1 := mod8 e1
      have e2 := mod8 e2
      generalize m / 8 = M at *
      generalize b / 8 = B at *
      subst e1 e2
      have hcl := cutL_len (l := l) (A := B) (M := M) (by omega)
      have w1 : wrap64 (Int.tdiv ((8 * B : Nat) : Int) 8) = (B : Int) := by rw [tdiv_pos (by omega), w64 (by omega) (by omega)]; omega
      have w2 : wrap64 (Int.tdiv (wrap64 (((8 * B : Nat) : Int) + ((8 * M : Nat) : Int))) 8) = ((B + M : Nat) : Int) := by
        rw [w64 (n := ((8 * B : Nat) : Int) + ((8 * M : Nat) : Int)) (by omega) (by omega), tdiv_pos (by omega), w64 (by omega) (by omega)]; omega
      simp only [w1, w2, Int.toNat_natCast]
      refine Ev.if_pos (by omega) (Ev.if_pos (by omega) (Ev.if_pos (by omega) ?_))
      have hb : ∀ x ∈ (cutL l B M).reverse, 0 ≤ x ∧ x ≤ 255 := fun x hx => hl x (cutL_mem x (List.mem_reverse.1 hx))
      have hrl : (cutL l B M).reverse.length = M := by rw [List.length_reverse, hcl]
      have hnum := number_ev hb (by rw [hrl]; omega) 0 (8 * M) (by omega) (by rw [hrl]; omega)
      rw [show num (cutL l B M).reverse 0 (8 * M) = le (cutL l B M) by
        have := num_le hb 0 M (by rw [hrl]; omega)
        rw [Nat.mul_zero] at this
        rw [this]
        unfold cutL
        rw [Nat.zero_add, List.drop_zero, List.take_of_length_le (by unfold cutL at hrl; omega), List.reverse_reverse]] at hnum
      exact Ev.bind (rturned_ev (l := cutL l B M) (by omega)) (Ev.bind hnum (Ev.now _))
  · rw [if_neg c]
    exact Ev.if_neg c (Ev.now _)
theorem BitsGets : wireglasslaw01_BitsGets.Pure := by
  intro l a n w hm hn hl ha _ _
  have hb := bytes_wf hl
  refine Ev.rounds (g := fun k => wireglasslaw01_BitsGets.f k l a n w) ?_
  unfold wireglasslaw01_BitsGets.f
  by_cases c : (l.length : Int) > 20000
  · exact Ev.if_pos c known_b
  · exact Ev.if_neg c (Ev.bind (bits_get_ev hb (by omega) ha _) (Ev.bind (ref_get_ev hb (by omega) ha _) (Ev.if_pos rfl (Ev.if_pos rfl known_b))))
end Go.Proofs.Ytifalpoabgofkaa.Pure
