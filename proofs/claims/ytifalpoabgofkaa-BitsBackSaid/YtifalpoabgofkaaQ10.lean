/- Numbers put into bits of bytes, in plain Lean: the rounds of both Puts and the statement BitsPuts. Conditions: the numbers are those of their kinds. -/
import Derived.Test.YtifalpoabgofkaaGx10
import Derived.Test.YtifalpoabgofkaaGx7
import Derived.Test.YtifalpoabgofkaaGx8
import Derived.Test.YtifalpoabgofkaaGx9
import Derived.Test.YtifalpoabgofkaaQ9
namespace Go.Proofs.Ytifalpoabgofkaa.Pure
open Go.RowKit Go.Proofs.Ytifalpoabgofkaa.G Go.Proofs.YtifalpoabgofkaaW.PrintWords Go.Proofs.YtifalpoabgofkaaW.PrintLast Hand
set_option linter.unusedVariables false

theorem half (w : Int) (e : Nat) : w / 2 ^ e / 2 = w / 2 ^ (e + 1) := by rw [Int.ediv_ediv_of_nonneg (Int.le_of_lt (p2_pos _)), Int.pow_succ]
theorem and_one (w : Int) : Go.bits .and .i64 w 1 = w % 2 := and_i64_mask w 1 (by decide)
theorem bits_put_loop {l : List Int} (hn : l.length ≤ 140737488351232) (a n : Nat) (hfit : a + n ≤ 8 * l.length) (w : Int) (d : Nat) :
    ∀ L : List Int, d ≤ n → L.length = l.length → (∀ x ∈ L, 0 ≤ x ∧ x ≤ 255) → (∀ q, q < 8 * l.length → bitv L q = if a + d ≤ q ∧ q < a + n then w / 2 ^ (a + n - 1 - q) % 2 else bitv l q) →
      ∃ R, Is R l a n w ∧ Ev (fun k => bits_Put.l0 k (a : Int) (w / 2 ^ (n - d)) L ((a + d : Nat) - 1 : Int)) (R, 0) := by
  induction d with
  | zero =>
    intro L _ h1 h2 h3
    refine ⟨L, ⟨h1, h2, by rw [Nat.add_zero] at h3; exact h3⟩, Ev.step (f := fun _ => some (L, 0)) (fun k => ?_) (Ev.now _)⟩
    rw [bits_Put.l0, if_neg (by omega)]
  | succ d ih =>
    intro L hd h1 h2 h3
    generalize hu : w / 2 ^ (n - (d + 1)) = u
    have hp : a + d < 8 * L.length := by omega
    obtain ⟨b, hb, hbu⟩ : ∃ b : Nat, b < 2 ∧ u % 2 = (b : Int) := ⟨(u % 2).toNat, by omega, by omega⟩
    obtain ⟨R, hR, hev⟩ := ih (putB L (a + d) b) (by omega) ((putB_len _ _ _).trans h1) (putB_byte h2 _ _ hb) (fun q hq => by
      rw [putB_bit h2 _ _ _ hb hp]
      by_cases c : q = a + d
      · rw [_root_.if_pos c, _root_.if_pos (by omega), c, show a + n - 1 - (a + d) = n - (d + 1) by omega, hu, hbu]
      · rw [_root_.if_neg c, h3 q hq]
        by_cases c2 : a + (d + 1) ≤ q ∧ q < a + n
        · rw [_root_.if_pos c2, _root_.if_pos (by omega)]
        · rw [_root_.if_neg c2, _root_.if_neg (by omega)])
    refine ⟨R, hR, ?_⟩
    obtain ⟨s1, s2⟩ := sh_eq (a + d) (by omega)
    obtain ⟨t1, t2⟩ := put_step h2 (a + d) b hb hp
    have e1 : (((a + (d + 1) : Nat) : Int) - 1) = ((a + d : Nat) : Int) := by omega
    have e2 : wrap64 (((a + d : Nat) : Int) - 1) = ((a + d : Nat) : Int) - 1 := w64 (by omega) (by omega)
    have e3 : w / 2 ^ (n - d) = u / 2 := by rw [← hu, half, show n - (d + 1) + 1 = n - d by omega]
    rw [e3] at hev
    rw [e1]
    refine Ev.step (fun k => ?_) hev
    rw [bits_Put.l0, if_pos (by omega), s1, s2, e2, if_pos (by omega), if_pos (by omega), if_pos (by omega), Int.toNat_natCast, t1]
    simp only [Option.bind_some]
    rw [and_one, hbu]
    by_cases c : b = 1
    · subst c
      rw [show ((1 : Nat) : Int) = 1 from rfl] at t2 ⊢
      rw [if_pos rfl, t2]
    · obtain rfl : b = 0 := by omega
      rw [if_neg (by decide)]
      rfl
/-- The rounds of the reference's Put, told once: the place of bit j is p j. -/
theorem ref_put_loop {l : List Int} (hn : l.length ≤ 140737488351232) (a n : Nat) (hn48 : n ≤ 48) (hfit : a + n ≤ 8 * l.length) (v : Int) (hv : 0 ≤ v) (low : Bool) (J : Nat → Nat) (w : Int)
    (hJn : ∀ q, a ≤ q ∧ q < a + n → J q < n) (hJ : ∀ q, a ≤ q ∧ q < a + n → v / 2 ^ (n - 1 - J q) % 2 = w / 2 ^ (a + n - 1 - q) % 2) (p : Nat → Nat) (hp : ∀ j, j < n → (a ≤ p j ∧ p j < a + n) ∧ ∀ q, a ≤ q ∧ q < a + n → (J q = j ↔ q = p j))
    (hstep : ∀ (L L' : List Int) (j b : Nat) (r : List Int × Int), j < n → L.length = l.length → (∀ x ∈ L, 0 ≤ x ∧ x ≤ 255) → b < 2 → v / 2 ^ (n - 1 - j) % 2 = (b : Int) → Ev (fun k => wireglassref01_Put.l0 k (a : Int) (n : Int) v low (putB L (p j) b) ((j + 1 : Nat) : Int)) r → Ev (fun k => wireglassref01_Put.l0 k (a : Int) (n : Int) v low L (j : Int)) r)
    (d : Nat) : ∀ (L : List Int) (j : Nat), j + d = n → L.length = l.length → (∀ x ∈ L, 0 ≤ x ∧ x ≤ 255) → (∀ q, q < 8 * l.length → bitv L q = if (a ≤ q ∧ q < a + n) ∧ J q < j then v / 2 ^ (n - 1 - J q) % 2 else bitv l q) →
      ∃ R, Is R l a n w ∧ Ev (fun k => wireglassref01_Put.l0 k (a : Int) (n : Int) v low L (j : Int)) (R, 0) := by
  induction d with
  | zero =>
    intro L j hj h1 h2 h3
    refine ⟨L, ⟨h1, h2, fun q hq => ?_⟩, Ev.step (f := fun _ => some (L, 0)) (fun k => ?_) (Ev.now _)⟩
    · rw [h3 q hq]
      by_cases c : a ≤ q ∧ q < a + n
      · have := hJn q c
        rw [_root_.if_pos ⟨c, by omega⟩, _root_.if_pos c, hJ q c]
      · rw [_root_.if_neg (fun h => c h.1), _root_.if_neg c]
    · rw [wireglassref01_Put.l0, if_neg (by omega)]
  | succ d ih =>
    intro L j hj h1 h2 h3
    obtain ⟨hpr, hpj⟩ := hp j (by omega)
    generalize hu : v / 2 ^ (n - 1 - j) = u
    obtain ⟨b, hb, hbu⟩ : ∃ b : Nat, b < 2 ∧ u % 2 = (b : Int) := ⟨(u % 2).toNat, by omega, by omega⟩
    obtain ⟨R, hR, hev⟩ := ih (putB L (p j) b) (j + 1) (by omega) ((putB_len _ _ _).trans h1) (putB_byte h2 _ _ hb) (fun q hq => by
      rw [putB_bit h2 _ _ _ hb (by omega)]
      by_cases c : q = p j
      · have hq2 : a ≤ q ∧ q < a + n := by omega
        have := (hpj q hq2).2 c
        rw [_root_.if_pos c, _root_.if_pos ⟨hq2, by omega⟩, this, hu, hbu]
      · rw [_root_.if_neg c, h3 q hq]
        by_cases c2 : (a ≤ q ∧ q < a + n) ∧ J q < j
        · rw [_root_.if_pos c2, _root_.if_pos ⟨c2.1, by omega⟩]
        · rw [_root_.if_neg c2, _root_.if_neg (fun h => c2 ⟨h.1, by
            have : J q ≠ j := fun e => c ((hpj q h.1).1 e)
            omega⟩)])
    exact ⟨R, hR, hstep L L j b _ (by omega) h1 h2 hb (by rw [hu, hbu]) hev⟩
theorem ref_bit (v : Int) (hv : 0 ≤ v) (n j : Nat) (hn : n ≤ 48) (hj : j < n) (b : Nat) (hb : v / 2 ^ (n - 1 - j) % 2 = (b : Int)) (hb2 : b < 2) : wrap64 (wrap64 ((n : Int) - 1) - (j : Int)) = ((n - 1 - j : Nat) : Int) ∧ Int.tmod (shr .i64 v ((n - 1 - j : Nat) : Int)) 2 % 256 = (b : Int) := by
  refine ⟨by clear hb; rw [w64 (n := (n : Int) - 1) (by omega) (by omega), w64 (by omega) (by omega)]; omega, ?_⟩
  have hk : n - 1 - j ≤ IntKind.i64.bits := by rw [show IntKind.i64.bits = 64 from rfl]; omega
  rw [shr_eq hk, tmod_pos (Int.ediv_nonneg hv (Int.le_of_lt (p2_pos _))), hb]
  clear hb hk
  omega
theorem ref_step_high {l : List Int} (hn : l.length ≤ 140737488351232) (a n : Nat) (hn48 : n ≤ 48) (hfit : a + n ≤ 8 * l.length) (v : Int) (hv : 0 ≤ v) (L L' : List Int) (j b : Nat) (r : List Int × Int) (hj : j < n) (h1 : L.length = l.length) (h2 : ∀ x ∈ L, 0 ≤ x ∧ x ≤ 255) (hb : b < 2) (hbv : v / 2 ^ (n - 1 - j) % 2 = (b : Int)) (h : Ev (fun k => wireglassref01_Put.l0 k (a : Int) (n : Int) v false (putB L (a + j) b) ((j + 1 : Nat) : Int)) r) :
    Ev (fun k => wireglassref01_Put.l0 k (a : Int) (n : Int) v false L (j : Int)) r := by
  revert hbv
  have k0 : (j : Int) < (n : Int) := by omega
  have k1 : (0 : Int) ≤ ((7 - (a + j) % 8 : Nat) : Int) := by omega
  have k2 : (0 : Int) ≤ (((a + j) / 8 : Nat) : Int) := by omega
  have k3 : (((a + j) / 8 : Nat) : Int) < (L.length : Int) := by omega
  have k4 : (0 : Int) ≤ ((n - 1 - j : Nat) : Int) := by omega
  have hp : a + j < 8 * L.length := by omega
  have k5 : a + j < 2251799813685248 := by omega
  have e1 : wrap64 ((a : Int) + (j : Int)) = ((a + j : Nat) : Int) := by rw [w64 (by omega) (by omega)]; omega
  have e2 : wrap64 ((j : Int) + 1) = ((j + 1 : Nat) : Int) := by rw [w64 (by omega) (by omega)]; omega
  obtain ⟨t1, t2⟩ := put_step h2 (a + j) b hb hp
  intro hbv
  obtain ⟨r1, r2⟩ := ref_bit v hv n j hn48 hj b hbv hb
  obtain ⟨s1, s2⟩ := sh_eq (a + j) k5
  refine Ev.step (fun k => ?_) h
  rw [wireglassref01_Put.l0, if_pos k0, if_neg (by decide), e1, e2, r1, s1, s2, if_pos k2, if_pos k3, if_pos k1, Int.toNat_natCast, t1]
  simp only [Option.bind_some]
  rw [if_pos k4, r2, t2]
theorem ref_step_low {l : List Int} (hn : l.length ≤ 140737488351232) (A M : Nat) (hM : M ≤ 6) (hfit : A + M ≤ l.length) (v : Int) (hv : 0 ≤ v) (L L' : List Int) (j b : Nat) (r : List Int × Int) (hj : j < 8 * M) (h1 : L.length = l.length) (h2 : ∀ x ∈ L, 0 ≤ x ∧ x ≤ 255) (hb : b < 2) (hbv : v / 2 ^ (8 * M - 1 - j) % 2 = (b : Int)) (h : Ev (fun k => wireglassref01_Put.l0 k ((8 * A : Nat) : Int) ((8 * M : Nat) : Int) v true (putB L (8 * A + 8 * (M - 1 - j / 8) + j % 8) b) ((j + 1 : Nat) : Int)) r) :
    Ev (fun k => wireglassref01_Put.l0 k ((8 * A : Nat) : Int) ((8 * M : Nat) : Int) v true L (j : Int)) r := by
  revert hbv
  have h48 : 8 * M ≤ 48 := by omega
  have k0 : (j : Int) < ((8 * M : Nat) : Int) := by omega
  have k4 : (0 : Int) ≤ ((8 * M - 1 - j : Nat) : Int) := by omega
  have e1 : wrap64 ((wrap64 ((wrap64 ((wrap64 (((8 * A : Nat) : Int) + ((8 * M : Nat) : Int))) - 8)) - (wrap64 ((wrap64 (Int.tdiv (j : Int) 8)) * 8)))) + (Int.tmod (j : Int) 8)) = ((8 * A + 8 * (M - 1 - j / 8) + j % 8 : Nat) : Int) := by
    rw [tmod_pos (by omega), tdiv_pos (by omega), w64 (n := ((8 * A : Nat) : Int) + ((8 * M : Nat) : Int)) (by omega) (by omega), w64 (n := (j : Int) / 8) (by omega) (by omega), w64 (n := ((8 * A : Nat) : Int) + ((8 * M : Nat) : Int) - 8) (by omega) (by omega), w64 (n := (j : Int) / 8 * 8) (by omega) (by omega), w64 (n := ((8 * A : Nat) : Int) + ((8 * M : Nat) : Int) - 8 - (j : Int) / 8 * 8) (by omega) (by omega), w64 (by omega) (by omega)]
    omega
  have hp : 8 * A + 8 * (M - 1 - j / 8) + j % 8 < 8 * L.length := by clear e1; omega
  generalize 8 * A + 8 * (M - 1 - j / 8) + j % 8 = P at *
  have e2 : wrap64 ((j : Int) + 1) = ((j + 1 : Nat) : Int) := by clear e1; rw [w64 (by omega) (by omega)]; omega
  have k1 : (0 : Int) ≤ ((7 - P % 8 : Nat) : Int) := by clear e1; omega
  have k2 : (0 : Int) ≤ ((P / 8 : Nat) : Int) := by clear e1; omega
  have k3 : ((P / 8 : Nat) : Int) < (L.length : Int) := by clear e1; omega
  have k5 : P < 2251799813685248 := by clear e1; omega
  intro hbv
  obtain ⟨s1, s2⟩ := sh_eq P k5
  obtain ⟨t1, t2⟩ := put_step h2 P b hb hp
  obtain ⟨r1, r2⟩ := ref_bit v hv (8 * M) j h48 hj b hbv hb
  refine Ev.step (fun k => ?_) h
  rw [wireglassref01_Put.l0, if_pos k0, if_pos rfl, e1, e2, r1, s1, s2, if_pos k2, if_pos k3, if_pos k1, Int.toNat_natCast, t1]
  simp only [Option.bind_some]
  rw [if_pos k4, r2, t2]
/-- The M bytes of a number, the lowest first. -/
def digs : Nat → Int → List Int
  | 0, _ => []
  | k + 1, v => v % 256 :: digs k (v / 256)
theorem digs_len : ∀ (k : Nat) (v : Int), (digs k v).length = k
  | 0, _ => rfl
  | k + 1, v => by rw [digs, List.length_cons, digs_len k]
theorem digs_byte : ∀ (k : Nat) (v : Int), ∀ x ∈ digs k v, 0 ≤ x ∧ x ≤ 255
  | 0, _, _, h => by simp [digs] at h
  | k + 1, v, x, h => by
    rw [digs, List.mem_cons] at h
    rcases h with rfl | h
    · omega
    · exact digs_byte k _ x h
theorem digs_le : ∀ (k : Nat) (v : Int), 0 ≤ v → v < 256 ^ k → le (digs k v) = v
  | 0, v, h0, h1 => by rw [Int.pow_zero] at h1; rw [digs, le]; omega
  | k + 1, v, h0, h1 => by
    rw [digs, le, digs_le k (v / 256) (by omega) (by rw [Int.pow_succ] at h1; generalize (256 : Int) ^ k = q at *; omega)]
    omega
theorem le_digit : ∀ (zs : List Int) (k : Nat), (∀ x ∈ zs, 0 ≤ x ∧ x ≤ 255) → k < zs.length → le zs / 256 ^ k % 256 = rd zs (k : Int)
  | [], _, _, h => absurd h (Nat.not_lt_zero _)
  | c :: r, 0, h, _ => by
    have := h c (by simp)
    rw [Int.pow_zero, Int.ediv_one, le, show rd (c :: r) ((0 : Nat) : Int) = c from rfl]
    omega
  | c :: r, k + 1, h, hk => by
    have hc := h c (by simp)
    have ih := le_digit r k (fun x hx => h x (by simp [hx])) (by rw [List.length_cons] at hk; omega)
    have e : rd (c :: r) ((k + 1 : Nat) : Int) = rd r (k : Int) := by unfold rd; rw [Int.toNat_natCast, Int.toNat_natCast]; rfl
    have e2 : le (c :: r) / 256 = le r := by rw [le]; omega
    rw [e, ← ih, Int.pow_succ, Int.mul_comm, ← Int.ediv_ediv_of_nonneg (by decide), e2]
theorem bit_digit (x : Int) (k r : Nat) (hr : r < 8) : x / 2 ^ (8 * k + r) % 2 = x / 256 ^ k % 256 / 2 ^ r % 2 := by
  rw [Int.pow_add, ← p256, ← Int.ediv_ediv_of_nonneg (by rw [p256]; exact Int.le_of_lt (p2_pos _))]
  generalize x / 256 ^ k = y
  have h : r = 0 ∨ r = 1 ∨ r = 2 ∨ r = 3 ∨ r = 4 ∨ r = 5 ∨ r = 6 ∨ r = 7 := by omega
  rcases h with rfl | rfl | rfl | rfl | rfl | rfl | rfl | rfl
  · rw [show (2 : Int) ^ 0 = 1 from rfl]; omega
  · rw [show (2 : Int) ^ 1 = 2 from rfl]; omega
  · rw [show (2 : Int) ^ 2 = 4 from rfl]; omega
  · rw [show (2 : Int) ^ 3 = 8 from rfl]; omega
  · rw [show (2 : Int) ^ 4 = 16 from rfl]; omega
  · rw [show (2 : Int) ^ 5 = 32 from rfl]; omega
  · rw [show (2 : Int) ^ 6 = 64 from rfl]; omega
  · rw [show (2 : Int) ^ 7 = 128 from rfl]; omega
/-- The number with its M bytes turned round. -/
def turnV (M : Nat) (v : Int) : Int := be (digs M v) 0
theorem turnV_digit (M : Nat) (v : Int) (h0 : 0 ≤ v) (h1 : v < 256 ^ M) (i : Nat) (hi : i < M) : turnV M v / 256 ^ (M - 1 - i) % 256 = v / 256 ^ i % 256 := by
  have hl := digs_len M v
  have hb := digs_byte M v
  have hd := digs_le M v h0 h1
  have e : turnV M v = le (digs M v).reverse := by unfold turnV; rw [← be_reverse, List.reverse_reverse]
  have a1 := le_digit (digs M v) i hb (by omega)
  have a2 := le_digit (digs M v).reverse (M - 1 - i) (fun x hx => hb x (List.mem_reverse.1 hx)) (by rw [List.length_reverse]; omega)
  rw [e, a2]
  rw [hd] at a1
  rw [a1]
  clear a1 a2 e hd
  rw [rd_at (by rw [List.length_reverse]; omega), rd_at (by omega), List.getElem_reverse]
  congr 1
  omega
theorem turnV_bit (M : Nat) (v : Int) (h0 : 0 ≤ v) (h1 : v < 256 ^ M) (u : Nat) (hu : u < 8 * M) : v / 2 ^ (8 * M - 1 - (8 * (M - 1 - u / 8) + u % 8)) % 2 = turnV M v / 2 ^ (8 * M - 1 - u) % 2 := by
  have e1 : 8 * M - 1 - (8 * (M - 1 - u / 8) + u % 8) = 8 * (u / 8) + (7 - u % 8) := by clear h1; omega
  have e2 : 8 * M - 1 - u = 8 * (M - 1 - u / 8) + (7 - u % 8) := by clear h1; omega
  have h := turnV_digit M v h0 h1 (u / 8) (by clear h1; omega)
  rw [e1, e2, bit_digit _ _ _ (by clear h1 h; omega), bit_digit _ _ _ (by clear h1 h; omega), h]
theorem turnV_ev {v : Int} {M : Nat} (hM : M ≤ 6) (h0 : 0 ≤ v) (h1 : v < 256 ^ M) : Ev (fun k => bits_turned.f k v ((8 * M : Nat) : Int)) (turnV M v) := by
  have h := turned_ev (zs := digs M v) (m := M) (digs_byte M v) (digs_len M v) hM
  rw [digs_le M v h0 h1] at h
  exact h
end Go.Proofs.Ytifalpoabgofkaa.Pure
