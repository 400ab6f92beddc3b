/- Numbers in bytes of seven bits, in plain Lean: what Seven and Unseven come to in the program and in the reference, and the statement BitsSevens. Conditions: the numbers are those of their kinds. -/
import Derived.Test.YtifalpoabgofkaaGx2
import Derived.Test.YtifalpoabgofkaaGx7
import Derived.Test.YtifalpoabgofkaaGx8
import Derived.Test.YtifalpoabgofkaaQ7
namespace Go.Proofs.Ytifalpoabgofkaa.Pure
open Go.RowKit Go.Proofs.Ytifalpoabgofkaa.G Go.Proofs.YtifalpoabgofkaaW.PrintWords Go.Proofs.YtifalpoabgofkaaW.PrintLast Hand
set_option linter.unusedVariables false

/-- The bytes of a number, seven bits in each, the lowest first. -/
def sv : Nat → Int → List Int
  | 0, _ => []
  | k + 1, n => if 127 < n then (128 + n % 128) :: sv k (n / 128) else [n]
theorem sv_eq : ∀ (k : Nat) (n : Int), 0 ≤ n → (sevL k n).map sevByte = sv k n
  | 0, _, _ => rfl
  | k + 1, n, h => by
    have e : Go.bits .and .i64 n 127 = n % 128 := and_i64_mask n 7 (by decide)
    have s1 : ∀ a, sevByte (a, true) = wrap64 (a + 128) % 256 := fun _ => rfl
    have s2 : ∀ a, sevByte (a, false) = a % 256 := fun _ => rfl
    rw [sevL, sv, List.map_cons, e]
    by_cases c : 127 < n
    · rw [if_pos c, if_pos c, decide_eq_true c, s1, w64 (by omega) (by omega), sv_eq k (n / 128) (by omega)]
      congr 1
      omega
    · rw [if_neg c, if_neg c, decide_eq_false c, s2, List.map_nil]
      congr 1
      omega
/-- What Seven comes to. -/
def sevenV (n : Int) : List Int × Int := if n < 0 ∨ 281474976710656 ≤ n then ([], 1) else (sv 7 n, 0)
theorem bits_seven_eq (n : Int) : bits_Seven.f n = some (sevenV n) := by
  unfold bits_Seven.f sevenV
  by_cases c1 : n < 0
  · rw [if_pos c1, if_pos (.inl c1)]
  by_cases c2 : n ≥ 281474976710656
  · rw [if_neg c1, if_pos c2, if_pos (.inr c2)]
  rw [if_neg c1, if_neg c2, if_neg (by omega), sv_eq 7 n (by omega)]
theorem ref_seven_loop (k : Nat) : ∀ (n : Int) (acc : List Int), 0 ≤ n → n < 128 ^ (k + 1) → n < 562949953421312 → acc.length + k ≤ 1000 → Ev (fun t => wireglassref01_Seven.l0 t n acc) (acc ++ sv (k + 1) n, 0) := by
  induction k with
  | zero =>
    intro n acc h0 h1 h2 h3
    have h1 : n < 128 := h1
    refine Ev.step (f := fun _ => some (acc ++ sv 1 n, 0)) (fun t => ?_) (Ev.now _)
    rw [wireglassref01_Seven.l0, if_neg (by omega), if_pos (by omega), sv, if_neg (by omega)]
    rw [show n % 256 = n by omega]
  | succ k ih =>
    intro n acc h0 h1 h2 h3
    by_cases c : 127 < n
    · have ih := ih (n / 128) (acc ++ [128 + n % 128]) (by omega) (by rw [Int.pow_succ] at h1; omega) (by omega) (by rw [List.length_append]; simp; omega)
      rw [sv, if_pos c]
      rw [List.append_assoc] at ih
      refine Ev.step (fun t => ?_) ih
      rw [wireglassref01_Seven.l0, if_pos (by omega), if_pos (by omega), tdiv_pos h0, tmod_pos h0, w64 (n := n / 128) (by omega) (by omega), w64 (n := 128 + n % 128) (by omega) (by omega), show (128 + n % 128) % 256 = 128 + n % 128 by omega]
    · refine Ev.step (f := fun _ => some (acc ++ sv (k + 1 + 1) n, 0)) (fun t => ?_) (Ev.now _)
      rw [wireglassref01_Seven.l0, if_neg (by omega), if_pos (by omega), sv, if_neg (by omega)]
      rw [show n % 256 = n by omega]
theorem ref_seven_ev {n : Int} : Ev (fun k => wireglassref01_Seven.f k n) (sevenV n) := by
  have j1 : Ev (fun k => wireglassref01_Seven.j0 k n true) ([], 1) := Ev.step (f := fun _ => some ([], 1)) (fun k => by rw [wireglassref01_Seven.j0, if_pos rfl]) (Ev.now _)
  unfold wireglassref01_Seven.f sevenV
  by_cases c1 : n < 0
  · rw [if_pos (.inl c1)]; exact Ev.if_pos c1 j1
  refine Ev.if_neg c1 ?_
  by_cases c2 : n ≥ 281474976710656
  · rw [if_pos (.inr c2), decide_eq_true c2]; exact j1
  rw [if_neg (by omega), decide_eq_false c2]
  refine Ev.step (f := fun k => wireglassref01_Seven.l0 k n []) (fun k => by rw [wireglassref01_Seven.j0, if_neg (by decide)]) ?_
  have e : (128 : Int) ^ (6 + 1) = 562949953421312 := by decide
  exact ref_seven_loop 6 n [] (by omega) (by omega) (by omega) (by simp)
/-- What Unseven comes to: k more bytes may stand, v is what came before, i its bytes. -/
def unsev : Nat → List Int → Int → Nat → Int × Int × Int
  | _, [], _, _ => (0, 0, 11)
  | 0, _ :: _, _, _ => (0, 0, 11)
  | k + 1, c :: r, v, i => if c > 127 then unsev k r (v + 128 ^ i * (c % 128)) (i + 1) else if c = 0 ∧ 0 < i then (0, 0, 11) else if v + 128 ^ i * c ≥ 281474976710656 then (0, 0, 11) else (v + 128 ^ i * c, ((i + 1 : Nat) : Int), 0)
theorem and127 {c : Int} (h0 : 0 ≤ c) (h1 : c ≤ 255) : wrap64 (Go.bits .and .u8 c 127) = c % 128 := by
  obtain ⟨q, rfl⟩ := Int.eq_ofNat_of_zero_le h0
  have e : Go.bits .and .u8 (q : Int) 127 = ((q &&& 127 : Nat) : Int) := u8_and_nat q 127 (by omega) (by decide)
  rw [e, show (127 : Nat) = 2 ^ 7 - 1 from rfl, Nat.and_two_pow_sub_one_eq_mod, w64 (by omega) (by omega)]
  omega
theorem p128 (i : Nat) : (128 : Int) ^ i = 2 ^ (7 * i) := by
  induction i with
  | zero => rfl
  | succ m ih => rw [Int.pow_succ, ih, show 7 * (m + 1) = 7 * m + 7 by omega, Int.pow_add]; rfl
theorem shl_7 {c : Int} {i : Nat} (h0 : 0 ≤ c) (h1 : c < 128) (hi : i ≤ 6) : shl .i64 c ((7 * i : Nat) : Int) = 128 ^ i * c := by
  unfold shl
  have e6 : (2 : Int) ^ (42) = 4398046511104 := by decide
  have hp := p2_pos (7 * i)
  have hp2 := p2_le (show 7 * i ≤ 42 by omega)
  have hpos : 0 ≤ c * 2 ^ (7 * i) := Int.mul_nonneg h0 (by omega)
  have hle : c * 2 ^ (7 * i) ≤ 128 * 2 ^ (7 * i) := Int.mul_le_mul_of_nonneg_right (by omega) (by omega)
  rw [show min (((7 * i : Nat) : Int)).toNat IntKind.i64.bits = 7 * i by rw [show IntKind.i64.bits = 64 from rfl]; omega, p128, IntKind.wrap_i64, Int.mul_comm (2 ^ (7 * i)) c]
  omega
theorem or_7 {v c : Int} {i : Nat} (hv0 : 0 ≤ v) (hv : v < 128 ^ i) (h0 : 0 ≤ c) (h1 : c < 128) (hi : i ≤ 6) : Go.bits .or .i64 v (128 ^ i * c) = v + 128 ^ i * c ∧ 0 ≤ v + 128 ^ i * c ∧ v + 128 ^ i * c < 128 ^ (i + 1) ∧ (128 : Int) ^ (i + 1) ≤ 562949953421312 := by
  have e6 : (2 : Int) ^ (42) = 4398046511104 := by decide
  have e7 : (128 : Int) ^ (i + 1) = 128 ^ i * 128 := Int.pow_succ _ _
  have e8 := p128 i
  have hp := p2_pos (7 * i)
  have hp2 := p2_le (show 7 * i ≤ 42 by omega)
  have hpos : 0 ≤ 128 ^ i * c := Int.mul_nonneg (by omega) h0
  have hle : 128 ^ i * c ≤ 128 ^ i * 127 := Int.mul_le_mul_of_nonneg_left (by omega) (by omega)
  refine ⟨?_, by omega, by omega, by omega⟩
  rw [or_i64 _ _ hv0 (by omega) hpos (by omega)]
  obtain ⟨a, rfl⟩ := Int.eq_ofNat_of_zero_le hv0
  obtain ⟨b, rfl⟩ := Int.eq_ofNat_of_zero_le h0
  have ha : a < 2 ^ (7 * i) := by
    have := p2 (7 * i)
    omega
  have e := Nat.two_pow_add_eq_or_of_lt (i := 7 * i) (b := a) ha b
  rw [e8, ← p2, ← Int.natCast_mul, Int.toNat_natCast, Int.toNat_natCast, Nat.or_comm, ← e]
  omega
theorem bits_unsev_loop (l : List Int) (hl : ∀ x ∈ l, 0 ≤ x ∧ x ≤ 255) (hn : l.length ≤ 140737488351232) (k : Nat) : ∀ (i : Nat) (v : Int), i + k = 7 → i ≤ l.length → 0 ≤ v → v < 128 ^ i → Ev (fun t => bits_Unseven.l0 t v l (l.length : Int) (i : Int)) (unsev k (l.drop i) v i) := by
  induction k with
  | zero =>
    intro i v hi hil h0 h1
    refine Ev.step (f := fun _ => some (0, 0, 11)) (fun t => ?_) ?_
    · rw [bits_Unseven.l0]
      by_cases c : (i : Int) < l.length
      · rw [if_pos c, if_pos (by omega), if_pos c, if_pos (by omega)]
      · rw [if_neg c]
    · rw [show unsev 0 (l.drop i) v i = (0, 0, 11) by cases l.drop i <;> rfl]
      exact Ev.now _
  | succ k ih =>
    intro i v hi hil h0 h1
    by_cases c : i < l.length
    · have ed : l.drop i = rd l (i : Int) :: l.drop (i + 1) := by rw [rd_at c]; exact List.drop_eq_getElem_cons c
      have hb := rd_byte hl (i : Int)
      rw [ed]
      have ih := ih (i + 1) (v + 128 ^ i * (rd l (i : Int) % 128)) (by omega) (by omega)
      generalize hrd : rd l (i : Int) = x at *
      have hs : shl .i64 (wrap64 (Go.bits .and .u8 x 127)) (wrap64 (7 * (i : Int))) = 128 ^ i * (x % 128) := by
        rw [and127 hb.1 hb.2, w64 (by omega) (by omega), show 7 * (i : Int) = ((7 * i : Nat) : Int) by omega, shl_7 (by omega) (by omega) (by omega)]
      have e2 : wrap64 ((i : Int) + 1) = ((i + 1 : Nat) : Int) := by rw [w64 (by omega) (by omega)]; omega
      have e3 : wrap64 (7 * (i : Int)) = 7 * (i : Int) := w64 (by omega) (by omega)
      obtain ⟨ho, ho1, ho2, ho3⟩ := or_7 (c := x % 128) h0 h1 (by omega) (by omega) (show i ≤ 6 by omega)
      have ih := ih ho1 ho2
      by_cases c7 : x > 127
      · rw [unsev, if_pos c7]
        refine Ev.step (fun t => ?_) ih
        rw [bits_Unseven.l0, if_pos (by omega), if_pos (by omega), if_pos (by omega), if_neg (by omega)]
        rw [if_pos (by rw [e3]; omega), if_pos (by rw [hrd]; exact c7), hrd, hs, ho, e2]
      · have em : x % 128 = x := by omega
        rw [em] at ho ho1 ho2 hs
        rw [unsev, if_neg c7]
        refine Ev.step (f := fun _ => some (if x = 0 ∧ 0 < i then (0, 0, 11) else if v + 128 ^ i * x ≥ 281474976710656 then (0, 0, 11) else (v + 128 ^ i * x, ((i + 1 : Nat) : Int), 0))) (fun t => ?_) (Ev.now _)
        rw [bits_Unseven.l0, if_pos (by omega), if_pos (by omega), if_pos (by omega), if_neg (by omega)]
        rw [if_pos (by rw [e3]; omega), if_neg (by rw [hrd]; exact c7), hrd, hs, ho, e2]
        clear ih ho hs ho1 ho2 ho3 hl ed e3 e2
        generalize v + 128 ^ i * x = u
        by_cases c3 : u ≥ 281474976710656
        · rw [if_pos c3, if_pos c3]
          by_cases c1 : x = 0
          · rw [if_pos c1]
            by_cases c2 : 0 < i
            · rw [if_pos (by omega), if_pos ⟨c1, c2⟩]
            · rw [if_neg (by omega), if_neg (fun h => c2 h.2)]
          · rw [if_neg c1, if_neg (fun h => c1 h.1)]
        · rw [if_neg c3, if_neg c3]
          by_cases c1 : x = 0
          · rw [if_pos c1]
            by_cases c2 : 0 < i
            · rw [if_pos (by omega), if_pos ⟨c1, c2⟩]
            · rw [if_neg (by omega), if_neg (fun h => c2 h.2)]
          · rw [if_neg c1, if_neg (fun h => c1 h.1)]
    · refine Ev.step (f := fun _ => some (0, 0, 11)) (fun t => ?_) ?_
      · rw [bits_Unseven.l0, if_neg (by omega)]
      · rw [show l.drop i = [] from List.drop_eq_nil_of_le (by omega)]
        exact Ev.now _
theorem ref_unsev_loop (l : List Int) (hl : ∀ x ∈ l, 0 ≤ x ∧ x ≤ 255) (hn : l.length ≤ 140737488351232) (k : Nat) : ∀ (i : Nat) (v : Int), i + k = 7 → i ≤ l.length → 0 ≤ v → v < 128 ^ i → Ev (fun t => wireglassref01_Unseven.l0 t l v (128 ^ i) (i : Int)) (unsev k (l.drop i) v i) := by
  induction k with
  | zero =>
    intro i v hi hil h0 h1
    have j : Ev (fun t => wireglassref01_Unseven.j1 t l v (128 ^ i) (i : Int) false) (0, 0, 11) := Ev.step (f := fun _ => some (0, 0, 11)) (fun t => by rw [wireglassref01_Unseven.j1, if_neg (by decide)]) (Ev.now _)
    rw [show unsev 0 (l.drop i) v i = (0, 0, 11) by cases l.drop i <;> rfl]
    refine Ev.step (fun t => ?_) j
    rw [wireglassref01_Unseven.l0]
    by_cases c : (i : Int) < l.length
    · rw [if_pos c, decide_eq_false (by omega)]
    · rw [if_neg c]
  | succ k ih =>
    intro i v hi hil h0 h1
    by_cases c : i < l.length
    · have ed : l.drop i = rd l (i : Int) :: l.drop (i + 1) := by rw [rd_at c]; exact List.drop_eq_getElem_cons c
      have hb := rd_byte hl (i : Int)
      rw [ed]
      have ih := ih (i + 1) (v + 128 ^ i * (rd l (i : Int) % 128)) (by omega) (by omega)
      generalize hrd : rd l (i : Int) = x at *
      have e2 : wrap64 ((i : Int) + 1) = ((i + 1 : Nat) : Int) := by rw [w64 (by omega) (by omega)]; omega
      have e4 : wrap64 (Int.tmod x 128) = x % 128 := by rw [tmod_pos hb.1, w64 (by omega) (by omega)]
      obtain ⟨ho, ho1, ho2, ho3⟩ := or_7 (c := x % 128) h0 h1 (by omega) (by omega) (show i ≤ 6 by omega)
      have e5 : (128 : Int) ^ (i + 1) = 128 ^ i * 128 := Int.pow_succ _ _
      have hp : (0 : Int) < 128 ^ i := by rw [p128]; exact p2_pos _
      have e6 : wrap64 ((128 : Int) ^ i * 128) = 128 ^ (i + 1) := by rw [← e5, w64 (by omega) (by omega)]
      have hpos : 0 ≤ (128 : Int) ^ i * (x % 128) := Int.mul_nonneg (by omega) (by omega)
      have e7 : wrap64 (v + wrap64 ((128 : Int) ^ i * (x % 128))) = v + 128 ^ i * (x % 128) := by
        generalize (128 : Int) ^ i * (x % 128) = y at *
        rw [w64 (n := y) (by omega) (by omega), w64 (by omega) (by omega)]
      have ih := ih ho1 ho2
      refine Ev.step (f := fun t => wireglassref01_Unseven.j1 t l v (128 ^ i) (i : Int) true) (fun t => by rw [wireglassref01_Unseven.l0, if_pos (by omega), decide_eq_true (by omega)]) ?_
      by_cases c7 : x > 127
      · rw [unsev, if_pos c7]
        refine Ev.step (fun t => ?_) ih
        rw [wireglassref01_Unseven.j1, if_pos rfl, if_pos (by omega), if_pos (by omega), hrd, if_neg (by omega), e4, e7, e6, e2]
      · have em : x % 128 = x := by omega
        rw [em] at e4 e7
        rw [unsev, if_neg c7]
        refine Ev.step (f := fun _ => some (if x = 0 ∧ 0 < i then (0, 0, 11) else if v + 128 ^ i * x ≥ 281474976710656 then (0, 0, 11) else (v + 128 ^ i * x, ((i + 1 : Nat) : Int), 0))) (fun t => ?_) (Ev.now _)
        rw [wireglassref01_Unseven.j1, if_pos rfl, if_pos (by omega), if_pos (by omega), hrd, if_pos (by omega), e4, e7, e2]
        clear ih ho e4 e7 ho1 ho2 ho3 hl ed e2 e5 e6 hpos hp
        generalize v + 128 ^ i * x = u
        by_cases c3 : u ≥ 281474976710656
        · rw [if_pos c3, if_pos c3]
          by_cases c1 : x = 0 ∧ 0 < i
          · rw [if_pos c1]
          · rw [if_neg c1]
        · rw [if_neg c3, if_neg c3]
          by_cases c1 : x = 0
          · by_cases c2 : 0 < i
            · rw [if_pos (by omega), if_pos c1, if_pos ⟨c1, c2⟩]
            · rw [if_neg (by omega), if_neg (fun h => c2 h.2)]
          · by_cases c2 : 0 < i
            · rw [if_pos (by omega), if_neg c1, if_neg (fun h => c1 h.1)]
            · rw [if_neg (by omega), if_neg (fun h => c1 h.1)]
    · have j : Ev (fun t => wireglassref01_Unseven.j1 t l v (128 ^ i) (i : Int) false) (0, 0, 11) := Ev.step (f := fun _ => some (0, 0, 11)) (fun t => by rw [wireglassref01_Unseven.j1, if_neg (by decide)]) (Ev.now _)
      rw [show l.drop i = [] from List.drop_eq_nil_of_le (by omega)]
      refine Ev.step (fun t => ?_) j
      rw [wireglassref01_Unseven.l0, if_neg (by omega)]
theorem unsev_sv : ∀ (k i : Nat) (n v : Int) (r : List Int), 0 ≤ n → n < 128 ^ k → (i = 0 ∧ 0 < k ∨ 1 ≤ n) → v + 128 ^ i * n < 281474976710656 → unsev k (sv k n ++ r) v i = (v + 128 ^ i * n, ((i + (sv k n).length : Nat) : Int), 0)
  | 0, i, n, v, r, h0, h1, h2, h3 => by
    have h1 : n < 1 := h1
    omega
  | k + 1, i, n, v, r, h0, h1, h2, h3 => by
    rw [sv]
    by_cases c : 127 < n
    · rw [if_pos c, List.cons_append, unsev, if_pos (by omega)]
      have e : (128 + n % 128) % 128 = n % 128 := by omega
      have e2 : v + 128 ^ i * (n % 128) + 128 ^ (i + 1) * (n / 128) = v + 128 ^ i * n := by
        rw [Int.pow_succ, Int.mul_assoc, Int.add_assoc, ← Int.mul_add]
        congr 2
        omega
      rw [e, unsev_sv k (i + 1) (n / 128) _ r (by omega) (by rw [Int.pow_succ] at h1; generalize (128 : Int) ^ k = q at *; omega) (by omega) (by rw [e2]; exact h3), e2, List.length_cons, show i + 1 + (sv k (n / 128)).length = i + ((sv k (n / 128)).length + 1) by omega]
    · rw [if_neg c, List.singleton_append, unsev, if_neg c, if_neg (by omega), if_neg (by omega)]
      rfl
theorem bits_unsev_ev {l : List Int} (hl : ∀ x ∈ l, 0 ≤ x ∧ x ≤ 255) (hn : l.length ≤ 140737488351232) : Ev (fun t => bits_Unseven.f t l) (unsev 7 l 0 0) := bits_unsev_loop l hl hn 7 0 0 rfl (by omega) (by omega) (by decide)
theorem ref_unsev_ev {l : List Int} (hl : ∀ x ∈ l, 0 ≤ x ∧ x ≤ 255) (hn : l.length ≤ 140737488351232) : Ev (fun t => wireglassref01_Unseven.f t l) (unsev 7 l 0 0) := ref_unsev_loop l hl hn 7 0 0 rfl (by omega) (by omega) (by decide)
theorem sv_byte : ∀ (k : Nat) (n : Int), 0 ≤ n → ∀ x ∈ sv k n, 0 ≤ x ∧ x ≤ 255
  | 0, n, h, x, hx => by simp [sv] at hx
  | k + 1, n, h, x, hx => by
    rw [sv] at hx
    by_cases c : 127 < n
    · rw [if_pos c, List.mem_cons] at hx
      rcases hx with rfl | hx
      · omega
      · exact sv_byte k (n / 128) (by omega) x hx
    · rw [if_neg c, List.mem_singleton] at hx
      subst hx; omega
theorem sv_len : ∀ (k : Nat) (n : Int), (sv k n).length ≤ k
  | 0, _ => Nat.le_refl _
  | k + 1, n => by
    rw [sv]
    by_cases c : 127 < n
    · rw [if_pos c, List.length_cons]; have := sv_len k (n / 128); omega
    · rw [if_neg c, List.length_singleton]; omega
theorem BitsSevens : wireglasslaw01_BitsSevens.Pure := by
  intro n l hn hm hl hb
  have hb := bytes_wf hb
  refine Ev.rounds (g := fun k => wireglasslaw01_BitsSevens.f k n l) ?_
  unfold wireglasslaw01_BitsSevens.f
  by_cases c : (l.length : Int) > 20000
  · exact Ev.if_pos c known_b
  refine Ev.if_neg c ?_
  simp only [bits_seven_eq, Option.bind_some]
  refine Ev.bind ref_seven_ev (Ev.bind (bits_unsev_ev hb (by omega)) (Ev.bind (ref_unsev_ev hb (by omega)) ?_))
  simp only [same_bytes, Option.bind_some, bne_self_eq_false]
  show Ev (fun k => wireglasslaw01_BitsSevens.j0 k n l (sevenV n).1 (sevenV n).2 false) true
  unfold sevenV
  by_cases c2 : n < 0 ∨ 281474976710656 ≤ n
  · rw [if_pos c2]
    refine Ev.step (fun k => ?_) known_b
    rw [wireglasslaw01_BitsSevens.j0, if_neg (by decide), if_neg (by decide)]
  · rw [if_neg c2]
    have hs := sv_len 7 n
    have hu : ∀ r, unsev 7 (sv 7 n ++ r) 0 0 = (n, ((sv 7 n).length : Int), 0) := fun r => by
      rw [unsev_sv 7 0 n 0 r (by omega) (by have e : (128 : Int) ^ 7 = 562949953421312 := by decide
                                            omega) (.inl ⟨rfl, by decide⟩) (by rw [Int.pow_zero]; omega), Int.pow_zero, Int.one_mul, Int.zero_add, Nat.zero_add]
    have hw : ∀ x ∈ sv 7 n ++ l, 0 ≤ x ∧ x ≤ 255 := fun x hx => by
      rcases List.mem_append.1 hx with h | h
      · exact sv_byte 7 n (by omega) x h
      · exact hb x h
    have hue := bits_unsev_ev hw (by rw [List.length_append]; omega)
    rw [hu] at hue
    refine Ev.step (f := fun k => (bits_Unseven.f k (sv 7 n ++ l)).bind fun bt242 => (if bt242.1 = n then (if bt242.2.1 = ((sv 7 n).length : Int) then (if bt242.2.2 = 0 then ((wireglasslaw01_known.f k).bind fun t245 => (some t245)) else (some false)) else (some false)) else (some false))) (fun k => ?_) (Ev.bind hue (Ev.if_pos rfl (Ev.if_pos rfl (Ev.if_pos rfl known_b))))
    rw [wireglasslaw01_BitsSevens.j0, if_neg (by decide), if_pos rfl, if_pos (by simp; omega)]
    simp only [List.nil_append, Option.bind_some]
    rw [if_pos (by omega)]
end Go.Proofs.Ytifalpoabgofkaa.Pure
