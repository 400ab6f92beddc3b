/- Laid by a program of this repo over the translation: each Go function as a plain Lean function with the proof that the call comes to its answers, or a statement's row out of these; conditions: the hypotheses of each theorem. -/
import Derived.Test.YtphkkdjinehhoaaGx0
import Derived.Test.YtphkkdjinehhoaaGx1
import Derived.Test.YtphkkdjinehhoaaGx2
import Derived.Test.YtphkkdjinehhoaaGx3
import Derived.Test.YtphkkdjinehhoaaGx4
namespace Go.Proofs.Ytphkkdjinehhoaa.G
open Go.RowKit Go.Proofs.YtphkkdjinehhoaaW.PrintWords Go.Proofs.YtphkkdjinehhoaaW.PrintLast Go.Proofs.YtphkkdjinehhoaaW.PrintMore
attribute [local go_sem] max2_int min2_int max_two min_two max_three min_three max_four min_four   -- for this text's walks alone
set_option linter.unusedVariables false
set_option linter.unusedSimpArgs false

/-! ### voice_Unframe: function 21 -/
-- EXT rounds=0 making=1
-- STATE voice.Coder
def vBytes (b : List Int) : Bool := b.all fun x => decide (0 ≤ x ∧ x ≤ 255)
def vUnOk (b : List Int) : Bool := decide (4 ≤ b.length ∧ rd b 3 ≠ 0 ∧ rd b 2 ≤ 88 ∧ (b.length : Int) = 4 + (rd b 3 + 1) / 2 ∧ ¬ (rd b 3 % 2 = 1 ∧ rd b ((b.length : Int) - 1) % 16 ≠ 0))
def vNib (b : List Int) (i : Int) : Int := if i % 2 = 0 then rd b (4 + i / 2) / 16 else rd b (4 + i / 2) % 16
def vUn (b : List Int) : Nat → Int → Int → Int → List Int
  | 0, _, _, _ => []
  | m + 1, i, p, k => vP p (rd (vStepsL 89) k) (vNib b i) :: vUn b m (i + 1) (vP p (rd (vStepsL 89) k) (vNib b i)) (vK k (vNib b i))
def vP0 (b : List Int) : Int := if 256 * rd b 0 + rd b 1 > 32767 then 256 * rd b 0 + rd b 1 - 65536 else 256 * rd b 0 + rd b 1
def voice_Unframe.f (b : List Int) : Option (List Int × Int) := if vBytes b = true then (if vUnOk b = true then some (vUn b (rd b 3).toNat 0 (vP0 b) (rd b 2), 0) else some ([], 11)) else none
theorem vBytes_rd {b : List Int} (h : vBytes b = true) (i : Int) (h0 : 0 ≤ i) (h1 : i < b.length) : 0 ≤ rd b i ∧ rd b i ≤ 255 := by
  obtain ⟨n, rfl⟩ := Int.eq_ofNat_of_zero_le h0
  have := List.all_eq_true.1 h (b[n]'(by omega)) (List.getElem_mem _)
  rw [show rd b (n : Int) = b[n]'(by omega) by unfold rd; rw [List.getD_eq_getElem?_getD, Int.toNat_natCast, List.getElem?_eq_getElem (by omega : n < b.length)]; rfl]
  simpa using this
theorem and8_15 (a : Int) (h0 : 0 ≤ a) (h1 : a ≤ 255) : Go.bits .and .u8 a 15 = a % 16 := by
  have h : ∀ i : Fin 256, Go.bits .and .u8 (i.val : Int) 15 = (i.val : Int) % 16 := by decide +kernel
  obtain ⟨n, rfl⟩ := Int.eq_ofNat_of_zero_le h0
  exact h ⟨n, by omega⟩
set_option maxHeartbeats 8000000 in
set_option maxRecDepth 100000 in
theorem voice_Unframe.fails (A0 : Option Addr) (c0 : Nat) (l0 : List Int) (w : World) (hr0 : Kd.C (Kd.int .u8) w A0 l0.length l0) (hc0 : l0.length ≤ c0) (hy : vBytes l0 = true) (h : vUnOk l0 = false) :
    Calls Try.prog 21 #[.slice A0 l0.length c0] w fun e w' => ∃ v0_ : Value, e = .returned (.tuple #[v0_, .int .i64 11]) ∧ Kd.R (Kd.int .i64) 3 w' w.heap.size (fun _ => True) v0_ [] ∧ Below w.heap.size w w' := by
  have hm := Kd.C_max hr0
  have HR0 := Aside0.mk hr0
  have HC0 := Aside0.mk hc0
  have HY := Aside0.mk hy
  clear hr0 hc0 hy
  have H := Aside0.mk h
  clear h
  by_cases c1 : (l0.length : Int) < 4
  · have c1b0 : decide ((l0.length : Int) < 4) = true := decide_eq_true c1
    have c1b1 : decide (l0.length < 4) = true := decide_eq_true (by omega)
    clear c1
    go_enter Try.func21, Try.ntmps21
    go_wp2
    go_ret2
    exact ⟨.slice none 0 0, rfl, Kd.R_nil _ _ _ _ _, by repeat (first | exact Below.refl _ _ | apply pw_below_drewN | apply below_drew1)⟩
  have c1b0 : decide ((l0.length : Int) < 4) = false := decide_eq_false c1
  have c1b1 : decide (l0.length < 4) = false := decide_eq_false (by omega)
  obtain ⟨ad, e, hx3⟩ := Kd.at_int HR0.out 3 (by omega) (by omega)
  cases e
  obtain ⟨ad', e, hx2⟩ := Kd.at_int HR0.out 2 (by omega) (by omega)
  cases e
  obtain ⟨hn0, hn1⟩ := vBytes_rd HY.out 3 (by omega) (by omega)
  obtain ⟨hk0, hk1⟩ := vBytes_rd HY.out 2 (by omega) (by omega)
  obtain ⟨ad', e, hxl⟩ := Kd.at_int HR0.out ((l0.length : Int) - 1) (by omega) (by omega)
  cases e
  have hbl := vBytes_rd HY.out ((l0.length : Int) - 1) (by omega) (by omega)
  have hand := and8_15 _ hbl.1 hbl.2
  obtain ⟨x3, h3⟩ : ∃ x, rd l0 3 = x := ⟨_, rfl⟩
  obtain ⟨x2, h2⟩ : ∃ x, rd l0 2 = x := ⟨_, rfl⟩
  obtain ⟨xl, hl⟩ : ∃ x, rd l0 ((l0.length : Int) - 1) = x := ⟨_, rfl⟩
  have HH : Aside0 (¬ (x3 ≠ 0 ∧ x2 ≤ 88 ∧ (l0.length : Int) = 4 + (x3 + 1) / 2 ∧ ¬ (x3 % 2 = 1 ∧ xl % 16 ≠ 0))) := ⟨by
    have h := H.out
    unfold vUnOk at h
    rw [decide_eq_false_iff_not, h3, h2, hl] at h
    exact fun h' => h ⟨by omega, h'⟩⟩
  rw [h3] at hx3 hn0 hn1
  rw [h2] at hx2 hk0 hk1
  rw [hl] at hxl hbl hand
  clear h3 h2 hl H
  simp only [Int.reduceToNat, Nat.reduceEqDiff, Go.Addr.add, ↓reduceIte] at hx3 hx2
  have hwl : IntKind.i64.wrap ((l0.length : Int) - 1) = (l0.length : Int) - 1 := by rw [i64_w]; unfold wrap64; omega
  have hxm := hxl
  rw [show ((l0.length : Int) - 1).toNat = l0.length - 1 by omega] at hxm
  have q1 : (0 : Int) ≤ (l0.length : Int) - 1 := by omega
  have q2 : (l0.length : Int) - 1 < l0.length := by omega
  by_cases c2 : x3 = 0
  · subst c2
    clear hbl hk0 hk1 hand
    go_enter Try.func21, Try.ntmps21
    go_wp2
    go_ret2
    exact ⟨.slice none 0 0, rfl, Kd.R_nil _ _ _ _ _, by repeat (first | exact Below.refl _ _ | apply pw_below_drewN | apply below_drew1)⟩
  have c2b : (x3 == 0) = false := by simpa using c2
  have c2c : (x3 != 0) = true := by simpa using c2
  by_cases c3 : 88 < x2
  · have c3b : decide (88 < x2) = true := decide_eq_true c3
    clear hbl hand
    go_enter Try.func21, Try.ntmps21
    go_wp2
    go_ret2
    exact ⟨.slice none 0 0, rfl, Kd.R_nil _ _ _ _ _, by repeat (first | exact Below.refl _ _ | apply pw_below_drewN | apply below_drew1)⟩
  have c3b : decide (88 < x2) = false := decide_eq_false c3
  by_cases c4 : (l0.length : Int) = 4 + (x3 + 1) / 2
  · have c4b : ((l0.length : Int) == 4 + (x3 + 1) / 2) = true := by simpa using c4
    have c4c : ((l0.length : Int) != 4 + (x3 + 1) / 2) = false := by simp [c4]
    by_cases c5 : x3 % 2 = 1
    · have c5b : (x3 % 2 == 1) = true := by simpa using c5
      by_cases c6 : xl % 16 = 0
      · exact absurd ⟨c2, by omega, c4, fun h => h.2 c6⟩ HH.out
      · have c6b : (xl % 16 == 0) = false := by simpa using c6
        have c6c : (xl % 16 != 0) = true := by simpa using c6
        clear hbl c2 c3 c4 c5 c6
        go_enter Try.func21, Try.ntmps21
        go_wp2
        go_ret2
        exact ⟨.slice none 0 0, rfl, Kd.R_nil _ _ _ _ _, by repeat (first | exact Below.refl _ _ | apply pw_below_drewN | apply below_drew1)⟩
    · exact absurd ⟨c2, by omega, c4, fun h => c5 h.1⟩ HH.out
  · have c4b : ((l0.length : Int) == 4 + (x3 + 1) / 2) = false := by simpa using c4
    have c4c : ((l0.length : Int) != 4 + (x3 + 1) / 2) = true := by simpa using c4
    clear hbl hand c2 c3 c4
    go_enter Try.func21, Try.ntmps21
    go_wp2
    go_ret2
    exact ⟨.slice none 0 0, rfl, Kd.R_nil _ _ _ _ _, by repeat (first | exact Below.refl _ _ | apply pw_below_drewN | apply below_drew1)⟩
theorem or_u64 (a b : Int) (h1 : 0 ≤ a) (h2 : a < 18446744073709551616) (h3 : 0 ≤ b) (h4 : b < 18446744073709551616) : Go.bits .or .u64 a b = ((a.toNat ||| b.toNat : Nat) : Int) := by
  simp only [Go.bits, BitVec.toNat_or]
  rw [show IntKind.u64.bits = 64 from rfl, Hand.ofInt64, Hand.ofInt64, Int.emod_eq_of_lt h1 (by omega), Int.emod_eq_of_lt h3 (by omega)]
  have := Nat.or_lt_two_pow (n := 64) (x := a.toNat) (y := b.toNat) (by omega) (by omega)
  rw [IntKind.wrap_u64]; omega
theorem or_byte {a b : Int} (h1 : 0 ≤ a) (h2 : a < 72057594037927936) (h3 : 0 ≤ b) (h4 : b < 256) : Go.bits .or .u64 (a * 256) b = 256 * a + b := by
  rw [or_u64 _ _ (by omega) (by omega) (by omega) (by omega)]
  have := Nat.two_pow_add_eq_or_of_lt (i := 8) (b := b.toNat) (by omega) a.toNat
  rw [show (a * 256).toNat = 2 ^ 8 * a.toNat by omega, ← this]
  omega
theorem get2_f (x y : Int) (h0 : 0 ≤ x) (h1 : x ≤ 255) (h2 : 0 ≤ y) (h3 : y ≤ 255) : wide_Get.f 3 [x, y] false = some (256 * x + y) := by
  have e1 : Go.bits .or .u64 (0 * 256) x = 256 * 0 + x := or_byte (by omega) (by omega) h0 (by omega)
  have e2 : Go.bits .or .u64 (x * 256) y = 256 * x + y := or_byte h0 (by omega) h2 (by omega)
  have wx : IntKind.u64.wrap x = x := by rw [IntKind.wrap_u64]; omega
  have wy : IntKind.u64.wrap y = y := by rw [IntKind.wrap_u64]; omega
  have wxx : IntKind.u64.wrap (x * 256) = x * 256 := by rw [IntKind.wrap_u64]; omega
  have w0 : IntKind.u64.wrap (0 * 256) = 0 * 256 := by decide
  have v1 : wrap64 (0 + 1) = 1 := Hand.w64 (by decide) (by decide)
  have v2 : wrap64 (1 + 1) = 2 := Hand.w64 (by decide) (by decide)
  have r0 : rd [x, y] 0 = x := rfl
  have r1 : rd [x, y] 1 = y := rfl
  unfold wide_Get.f
  rw [show (([x, y] : List Int).length : Int) = 2 from rfl]
  rw [wide_Get.l0, if_pos (by decide), if_neg (by decide), if_pos (by decide), if_pos (by simp), r0, wx, w0, e1, v1]
  rw [show (256 : Int) * 0 + x = x by omega]
  rw [wide_Get.l0, if_pos (by decide), if_neg (by decide), if_pos (by decide), if_pos (by simp), r1, wy, wxx, e2, v2]
  rw [wide_Get.l0, if_neg (by decide)]
theorem C_two {w : World} {ad : Addr} {l : List Int} (h : Kd.C (Kd.int .u8) w (some ad) l.length l) (h2 : 2 ≤ l.length) : Kd.C (Kd.int .u8) w (some ad) [rd l 0, rd l 1].length [rd l 0, rd l 1] := by
  match l, h2, h with
  | a :: b :: r, _, h =>
    refine ⟨rfl, by simp, fun _ => ?_⟩
    obtain ⟨ad', e, hc⟩ := h.2.2 (by simp)
    refine ⟨ad', e, fun j p hj => hc j p ?_⟩
    match j, hj with
    | 0, hj => simpa [rd] using hj
    | 1, hj => simpa [rd] using hj
    | j + 2, hj => simp at hj
theorem get2.calls (ad : Addr) (c0 : Nat) (l : List Int) (w : World) (h : Kd.C (Kd.int .u8) w (some ad) l.length l) (h2 : 2 ≤ l.length) (hc : l.length ≤ c0) (hx : 0 ≤ rd l 0 ∧ rd l 0 ≤ 255) (hy : 0 ≤ rd l 1 ∧ rd l 1 ≤ 255) :
    Calls Try.prog 39 #[.slice (some ad) 2 c0, .bool false] w fun e w' => e = .returned (.int .u64 (256 * rd l 0 + rd l 1)) ∧ Drawn0 w w' :=
  wide_Get.calls 3 (some ad) c0 [rd l 0, rd l 1] false _ w (C_two h h2) (by simp; omega) (get2_f _ _ hx.1 hx.2 hy.1 hy.2)
theorem C_set {w : World} {ad : Addr} {n : Nat} {l : List Int} (h : Kd.C (Kd.int .u8) w (some ad) n l) {p : Addr} (hp : ad.block ≠ p.block) (u : Value) : Kd.C (Kd.int .u8) (w.setCell p u) (some ad) n l := by
  refine ⟨h.1, h.2.1, fun hn => ?_⟩
  obtain ⟨ad', e, hc⟩ := h.2.2 hn
  cases e
  refine ⟨ad, rfl, fun j q hj => ?_⟩
  obtain ⟨c, hs, hr, hcell⟩ := hc j q hj
  refine ⟨c, hs, hr, fun i v hv => ?_⟩
  rw [← hcell i v hv]
  exact World.cell?_setCell_other _ _ _ _ (fun e => hp (by have := congrArg Addr.block e; rw [add_block] at this; first | exact this | exact this.symm))
theorem below_from_ {w1 W w' : World} {row : Option Nat} (h : Below w1.heap.size w1 W) (hg : W.grownBy w' row) (hr : ∀ k, row = some k → w1.heap.size ≤ k) : Below w1.heap.size w1 w' := h.grown hg h.size hr
theorem i16_two (b : List Int) (h0 : 0 ≤ rd b 0) (h1 : rd b 0 ≤ 255) (h2 : 0 ≤ rd b 1) (h3 : rd b 1 ≤ 255) : IntKind.i16.wrap (256 * rd b 0 + rd b 1) = vP0 b := by
  unfold vP0
  have : IntKind.i16.wrap (256 * rd b 0 + rd b 1) = (256 * rd b 0 + rd b 1 + 32768) % 65536 - 32768 := by simp [IntKind.wrap, IntKind.signed, IntKind.bits]; omega
  rw [this]; split <;> omega
/-- Behind the frame's head: the coder stands at p0, k0. -/
def vUnAt (w w' : World) (g : Nat) (p k : Int) : Prop := ∃ w1, IsS51 w1 w' g p k (vStepsL 89) ∧ Below w1.heap.size w1 w' ∧ Below w.heap.size w w1
set_option maxHeartbeats 8000000 in
set_option maxRecDepth 100000 in
theorem voice_Unframe.does (A0 : Option Addr) (c0 : Nat) (l0 : List Int) (w : World) (hr0 : Kd.C (Kd.int .u8) w A0 l0.length l0) (hc0 : l0.length ≤ c0) (hy : vBytes l0 = true) (h : vUnOk l0 = true) :
    Calls Try.prog 21 #[.slice A0 l0.length c0] w fun e w' => ∃ v0_ : Value, e = .returned (.tuple #[v0_, .int .i64 0]) ∧ Kd.R (Kd.int .i64) 3 w' w.heap.size (fun _ => True) v0_ (vUn l0 (rd l0 3).toNat 0 (vP0 l0) (rd l0 2)) ∧ Below w.heap.size w w' := by
  have hm := Kd.C_max hr0
  have HR0 := Aside0.mk hr0
  have HC0 := Aside0.mk hc0
  have HY := Aside0.mk hy
  clear hr0 hc0 hy
  obtain ⟨c1, c2, c3, c4, c5⟩ := of_decide_eq_true h
  clear h
  have c1b0 : decide ((l0.length : Int) < 4) = false := decide_eq_false (by omega)
  have c1b1 : decide (l0.length < 4) = false := decide_eq_false (by omega)
  obtain ⟨ad, e, hx3⟩ := Kd.at_int HR0.out 3 (by omega) (by omega)
  cases e
  obtain ⟨ad', e, hx2⟩ := Kd.at_int HR0.out 2 (by omega) (by omega)
  cases e
  obtain ⟨ad', e, hxl⟩ := Kd.at_int HR0.out ((l0.length : Int) - 1) (by omega) (by omega)
  cases e
  obtain ⟨hn0, hn1⟩ := vBytes_rd HY.out 3 (by omega) (by omega)
  obtain ⟨hk0, hk1⟩ := vBytes_rd HY.out 2 (by omega) (by omega)
  have hbl := vBytes_rd HY.out ((l0.length : Int) - 1) (by omega) (by omega)
  have hand := and8_15 _ hbl.1 hbl.2
  obtain ⟨x3, h3⟩ : ∃ x, rd l0 3 = x := ⟨_, rfl⟩
  obtain ⟨x2, h2⟩ : ∃ x, rd l0 2 = x := ⟨_, rfl⟩
  obtain ⟨xl, hl⟩ : ∃ x, rd l0 ((l0.length : Int) - 1) = x := ⟨_, rfl⟩
  rw [h3] at hx3 hn0 hn1 c2 c4 c5
  rw [h2] at hx2 hk0 hk1 c3
  rw [hl] at hxl hbl hand c5
  rw [h3, h2]
  clear h3 h2 hl
  simp only [Int.reduceToNat, Nat.reduceEqDiff, Go.Addr.add, ↓reduceIte] at hx3 hx2
  have hwl : IntKind.i64.wrap ((l0.length : Int) - 1) = (l0.length : Int) - 1 := by rw [i64_w]; unfold wrap64; omega
  have hxm := hxl
  rw [show ((l0.length : Int) - 1).toNat = l0.length - 1 by omega] at hxm
  have q1 : (0 : Int) ≤ (l0.length : Int) - 1 := by omega
  have q2 : (l0.length : Int) - 1 < l0.length := by omega
  have c2b : (x3 == 0) = false := by simpa using c2
  have c2c : (x3 != 0) = true := by simpa using c2
  have c3b : decide (88 < x2) = false := decide_eq_false (by omega)
  have c4b : ((l0.length : Int) == 4 + (x3 + 1) / 2) = true := by simpa using c4
  have c4c : ((l0.length : Int) != 4 + (x3 + 1) / 2) = false := by simp [c4]
  obtain ⟨W, hW⟩ : ∃ W, w = W := ⟨_, rfl⟩
  have c5x : ((x3 % 2 == 1) = true ∧ (xl % 16 == 0) = true ∧ (xl % 16 != 0) = false) ∨ (x3 % 2 == 1) = false := by
    by_cases c : x3 % 2 = 1
    · have : xl % 16 = 0 := by
        by_cases c' : xl % 16 = 0
        · exact c'
        · exact absurd ⟨c, c'⟩ c5
      left; simp [c, this]
    · right; simpa using c
  clear hW W
  have HC4 := Aside0.mk c4
  clear hbl c2 c4 c5
  obtain ⟨hy00, hy01⟩ := vBytes_rd HY.out 0 (by omega) (by omega)
  obtain ⟨hy10, hy11⟩ := vBytes_rd HY.out 1 (by omega) (by omega)
  have HY0 := Aside0.mk (And.intro hy00 hy01)
  have HY1 := Aside0.mk (And.intro hy10 hy11)
  have hwx : IntKind.i64.wrap x2 = x2 := by rw [i64_w]; unfold wrap64; omega
  have hs1 : (2 : Int) ≤ (c0 : Int) := by have := HC0.out; omega
  have hs2 : 2 ≤ c0 := by omega
  have hs3 : (2 : Int) < (l0.length : Int) := by omega
  have hs4 : 2 < l0.length := by omega
  have hs5 : decide ((2 : Int) < (l0.length : Int)) = true := decide_eq_true hs3
  have hs6 : decide ((2 : Int) ≤ (c0 : Int)) = true := decide_eq_true hs1
  have HV : Aside0 (vP0 l0 = IntKind.i64.wrap (IntKind.i16.wrap (256 * rd l0 0 + rd l0 1))) := ⟨by have h := i16_two l0 hy00 hy01 hy10 hy11; rw [h, i64_w]; unfold vP0 wrap64; split <;> omega⟩
  clear hy00 hy01 hy10 hy11
  obtain ⟨R, hR⟩ : ∃ R, vUn l0 x3.toNat 0 (vP0 l0) x2 = R := ⟨_, rfl⟩
  rw [hR]
  have HX0 := Aside0.mk hR
  clear hR
  rcases c5x with ⟨d1, d2, d3⟩ | d1
  all_goals
    go_enter Try.func21, Try.ntmps21
    go_upto_region 7 with (go_at_call 8; (with_reducible refine (voice_NewCoder.calls _).mono ?_); rintro e w2 ⟨g, w1, rfl, hI, hb, hb2⟩; have HI := Aside0.mk hI; have HB := Aside0.mk hb; have HB2 : Aside0 (Below w.heap.size w w1) := ⟨(pw_below_drewN (Below.refl _ w) 0).trans hb2⟩; clear hI hb hb2)
    obtain ⟨A2, c2, HG, hg, hc⟩ := HI.out
    have k0 := cellS51_0 HG
    have k1 := cellS51_1 HG
    have k2 := blk_frozen HG 0
    have k3 := blk_frozen HG 1
    have hgw : w.heap.size ≤ g := Nat.le_trans HB2.out.size hg
    have hbw : Below w.heap.size w w2 := HB2.out.trans (HB.out.mono HB2.out.size)
    have HR2 := Aside0.mk (Kd.C_below HR0.out hbw)
    have HFG := Aside0.mk (show ad.block ≠ g from by have := Kd.C_lt HR0.out (by omega) (by decide); omega)
    have hz2 := pw_cell_below hbw hx2
    have HZ := Aside0.mk hz2
    clear HG hg hc hbw hx2 hx3 hxl hxm hgw
    go_cut [5] from 8 (fun s5 wx => s5 = .pointer (some ⟨g, 0, none⟩) ∧ vUnAt w wx g (vP0 l0) x2)
    case first =>
      go_region_held3 (fun w' => w'.cell? ⟨ad.block, ad.off + 2, none⟩ = some (.int .u8 x2)) (exact keep_cell (by repeat (first | exact KeepBut.refl w2 g none | apply KeepBut.set_ | apply keep_drewN | apply keep_drew)) HZ.out HFG.out)
      (first
        | (go_at_call 39; (with_reducible refine (get2.calls ad c0 l0 _ ?gr ?gl HC0.out HY0.out HY1.out).mono ?_); (case gr => (repeat (first | exact HR2.out | (with_reducible refine Kd.C_drew ?_) | (with_reducible refine Kd.C_drewN ?_ _) | (with_reducible refine C_set ?_ HFG.out _)))); (case gl => omega); rintro e w' ⟨rfl, ⟨nd, rfl⟩⟩))
      all_goals go_wp2
      all_goals go_meet
      all_goals (refine ⟨rfl, w1, ?_, ?_, HB2.out⟩)
      all_goals try rw [HV.out]
      all_goals (first
        | exact IsS51.set_1 (IsS51.set_0 (IsS51.drewN HI.out _) _) _
        | exact IsS51.set_0 (IsS51.set_1 (IsS51.drewN HI.out _) _) _
        | exact below_set (below_set (pw_below_drewN HB.out _) (IsS51.ge HI.out)) (IsS51.ge HI.out))
    clear hz2 k0 k1 k2 k3 HZ HI HB HB2 HR2 HFG
    obtain ⟨rfl, w1, hI, hb, hb2⟩ := hcut
    have HI0 := Aside0.mk hI
    have HB := Aside0.mk hb
    have HB2 := Aside0.mk hb2
    clear hI hb hb2
    have hp00 : -32768 ≤ vP0 l0 ∧ vP0 l0 ≤ 32767 := by have := HY0.out; have := HY1.out; unfold vP0; split <;> omega
    have HBD := Aside0.mk hp00
    clear hp00
    go_wp2
    go_loopg [6, 64] x3.toNat (fun kq v6 v64 w' => ∃ (i : Int) (xs : List Int) (p k : Int), v64 = .int .i64 i ∧ 0 ≤ i ∧ i + kq = x3 ∧ Aside0 ((-32768 ≤ p ∧ p ≤ 32767) ∧ 0 ≤ k ∧ k ≤ 88) ∧ Aside0 (xs.length = i.toNat) ∧ Aside0 (xs ++ vUn l0 kq i p k = R) ∧ Aside0 (Kd.R (Kd.int .i64) 3 w' w.heap.size (fun k => w1.heap.size ≤ k) v6 xs) ∧ Aside0 (IsS51 w1 w' g p k (vStepsL 89)) ∧ Aside0 (Below w1.heap.size w1 w'))
    case atStart => exact ⟨0, [], vP0 l0, x2, rfl, by omega, by omega, ⟨HBD.out, hk0, c3⟩, ⟨rfl⟩, HX0, ⟨Kd.R_nil _ _ _ _ _⟩, HI0, HB⟩
    case round =>
      clear HX0 HI0 HB HBD
      obtain ⟨i, xs, p, k, rfl, hi0, hik, HBD, HLN, HX, HO, HI0, HB⟩ := hrel
      have HLX : Aside0 (xs.length ≤ 300) := ⟨by have := HLN.out; omega⟩
      by_cases ci : i < x3
      · obtain ⟨q, rfl⟩ : ∃ q, gk = q + 1 := ⟨gk - 1, by omega⟩
        have cib : decide (i < x3) = true := decide_eq_true ci
        have hix0 : 0 ≤ 4 + i / 2 := by omega
        have hix1 : 4 + i / 2 < (l0.length : Int) := by have := HC4.out; omega
        obtain ⟨ad', e, hxi⟩ := Kd.at_int HR0.out (4 + i / 2) hix0 hix1
        cases e
        replace hxi := pw_cell_below HB.out (pw_cell_below HB2.out hxi)
        obtain ⟨hb0, hb1⟩ := vBytes_rd HY.out (4 + i / 2) hix0 hix1
        have HX1 := HX.out
        rw [vUn] at HX1
        obtain ⟨y, hy⟩ : ∃ y, rd l0 (4 + i / 2) = y := ⟨_, rfl⟩
        obtain ⟨cc, hcc⟩ : ∃ cc, vNib l0 i = cc := ⟨_, rfl⟩
        rw [hcc] at HX1
        have hcc' := hcc
        unfold vNib at hcc'
        rw [hy] at hxi hb0 hb1 hcc'
        have HX := Aside0.mk HX1
        clear HX1 hcc hy
        have ha1 := and8_15 y hb0 hb1
        have ha2 := and8_15 (y / 16) (by omega) (by omega)
        have hy16 : y / 16 % 16 = y / 16 := by omega
        rw [hy16] at ha2
        have hcr : 0 ≤ cc ∧ cc < 16 := by rw [← hcc']; split <;> omega
        have HOK : Aside0 (voice_Coder_decode.f p k (vStepsL 89) cc = some (vP p (rd (vStepsL 89) k) cc, vP p (rd (vStepsL 89) k) cc, vK k cc)) := ⟨by unfold voice_Coder_decode.f; rw [if_pos (vOk_steps HBD.out.2.1 HBD.out.2.2 hcr.1 hcr.2 HBD.out.1.1 HBD.out.1.2)]⟩
        clear hy16 hcr
        by_cases cp : i % 2 = 0
        · rw [if_pos cp] at hcc'
          subst hcc'
          have hwy : wrap64 (y / 16) = y / 16 := by unfold wrap64; omega
          clear hb0 hb1
          go_wp2_with (first
            | (go_at_call 30; (with_reducible refine (voice_Coder_decode.calls g p k (vStepsL 89) (y / 16) (vP p (rd (vStepsL 89) k) (y / 16)) (vP p (rd (vStepsL 89) k) (y / 16)) (vK k (y / 16)) w1 _ ?side1 ?side2 HOK.out).mono ?_); (case side1 => repeat (first | (with_reducible first | exact HI0.out | apply IsS51.alloc | apply IsS51.drewN | apply IsS51.drew) | exact HI0.out)); (case side2 => repeat (first | (with_reducible first | exact HB.out | apply below_alloc | apply pw_below_drewN | apply below_drew1) | exact HB.out)); rintro e w18 ⟨rfl, hi, hb, hk⟩; have n0_ := Aside0.mk (Kd.R_mono (Kd.R_keep (IsS51.apart (show IsS51 w1 _ g p k (vStepsL 89) from by repeat (first | (with_reducible first | exact HI0.out | apply IsS51.alloc | apply IsS51.drewN | apply IsS51.drew) | exact HI0.out)) (by (with_reducible repeat (first | apply Kd.R_alloc | apply Kd.R_drewN | apply Kd.R_drew)); exact HO.out) (by decide)) hk (fun _ h => h.2)) (fun _ h => h.1)); have n2_ := Aside0.mk hb; have n3_ := Aside0.mk hi; clear HO HB HI0; have HO := n0_; have HB := n2_; have HI0 := n3_; clear n0_ n2_ n3_ hb hk hi)
            | (at_builtin; refine Kd.R_append (Kd.int .i64) w.heap.size rfl (.tmp 67) (.tmp 83) 22 3 (.int .i64 0) 8 rfl Try.underlying22 info3 rfl (by decide) (by omega) _ xs (vP p (rd (vStepsL 89) k) (y / 16)) [.int .i64 (vP p (rd (vStepsL 89) k) (y / 16))] (fun k => w1.heap.size ≤ k) (fun _ => False) rfl rfl ?aP (fun _ hk => hk.elim) ?aF ?aO (Below.refl _ _) ?aS ?aL ?_; (case aP => exact rfl); (case aF => intro k_ hk_; have := HB.out.size; omega); (case aO => exact (by (with_reducible repeat (first | apply Kd.R_alloc | apply Kd.R_drewN | apply Kd.R_drew)); exact HO.out)); (case aS => have := HB.out.size; have := HB2.out.size; omega); (case aL => have := HLX.out; omega); intro v129 w19 ho hb hg hat; have n0_ := Aside0.mk (IsS51.grown (by repeat (first | (with_reducible first | exact HI0.out | apply IsS51.alloc | apply IsS51.drewN | apply IsS51.drew) | exact HI0.out)) hg (IsS51.own_ne HI0.out HO.out (by decide))); have n1_ := Aside0.mk (below_from_ HB.out hg (fun k_ e_ => HO.out.1 k_ e_)); have n3_ := Aside0.mk ho; clear HI0 HB HO; have HI0 := n0_; have HB := n1_; have HO := n3_; clear n0_ n1_ n3_ ho hb hg hat))
          go_roundg q
          case measure => omega
          case rel => exact ⟨i + 1, _, _, _, by go_num, by omega, by omega, ⟨vP_bd _ _ _, vK_bd _ _⟩, ⟨by have := HLN.out; rw [List.length_append, List.length_singleton]; omega⟩, ⟨by rw [List.append_assoc]; exact HX.out⟩, HO, HI0, HB⟩
        · rw [if_neg cp] at hcc'
          subst hcc'
          have cp1 : i % 2 = 1 := by omega
          clear hb0 hb1 cp
          go_wp2_with (first
            | (go_at_call 30; (with_reducible refine (voice_Coder_decode.calls g p k (vStepsL 89) (y % 16) (vP p (rd (vStepsL 89) k) (y % 16)) (vP p (rd (vStepsL 89) k) (y % 16)) (vK k (y % 16)) w1 _ ?side1 ?side2 HOK.out).mono ?_); (case side1 => repeat (first | (with_reducible first | exact HI0.out | apply IsS51.alloc | apply IsS51.drewN | apply IsS51.drew) | exact HI0.out)); (case side2 => repeat (first | (with_reducible first | exact HB.out | apply below_alloc | apply pw_below_drewN | apply below_drew1) | exact HB.out)); rintro e w18 ⟨rfl, hi, hb, hk⟩; have n0_ := Aside0.mk (Kd.R_mono (Kd.R_keep (IsS51.apart (show IsS51 w1 _ g p k (vStepsL 89) from by repeat (first | (with_reducible first | exact HI0.out | apply IsS51.alloc | apply IsS51.drewN | apply IsS51.drew) | exact HI0.out)) (by (with_reducible repeat (first | apply Kd.R_alloc | apply Kd.R_drewN | apply Kd.R_drew)); exact HO.out) (by decide)) hk (fun _ h => h.2)) (fun _ h => h.1)); have n2_ := Aside0.mk hb; have n3_ := Aside0.mk hi; clear HO HB HI0; have HO := n0_; have HB := n2_; have HI0 := n3_; clear n0_ n2_ n3_ hb hk hi)
            | (at_builtin; refine Kd.R_append (Kd.int .i64) w.heap.size rfl (.tmp 67) (.tmp 83) 22 3 (.int .i64 0) 8 rfl Try.underlying22 info3 rfl (by decide) (by omega) _ xs (vP p (rd (vStepsL 89) k) (y % 16)) [.int .i64 (vP p (rd (vStepsL 89) k) (y % 16))] (fun k => w1.heap.size ≤ k) (fun _ => False) rfl rfl ?aP (fun _ hk => hk.elim) ?aF ?aO (Below.refl _ _) ?aS ?aL ?_; (case aP => exact rfl); (case aF => intro k_ hk_; have := HB.out.size; omega); (case aO => exact (by (with_reducible repeat (first | apply Kd.R_alloc | apply Kd.R_drewN | apply Kd.R_drew)); exact HO.out)); (case aS => have := HB.out.size; have := HB2.out.size; omega); (case aL => have := HLX.out; omega); intro v129 w19 ho hb hg hat; have n0_ := Aside0.mk (IsS51.grown (by repeat (first | (with_reducible first | exact HI0.out | apply IsS51.alloc | apply IsS51.drewN | apply IsS51.drew) | exact HI0.out)) hg (IsS51.own_ne HI0.out HO.out (by decide))); have n1_ := Aside0.mk (below_from_ HB.out hg (fun k_ e_ => HO.out.1 k_ e_)); have n3_ := Aside0.mk ho; clear HI0 HB HO; have HI0 := n0_; have HB := n1_; have HO := n3_; clear n0_ n1_ n3_ ho hb hg hat))
          go_roundg q
          case measure => omega
          case rel => exact ⟨i + 1, _, _, _, by go_num, by omega, by omega, ⟨vP_bd _ _ _, vK_bd _ _⟩, ⟨by have := HLN.out; rw [List.length_append, List.length_singleton]; omega⟩, ⟨by rw [List.append_assoc]; exact HX.out⟩, HO, HI0, HB⟩
      · obtain rfl : i = x3 := by omega
        have hq : gk = 0 := by omega
        subst hq
        have HX1 := HX.out
        rw [vUn, List.append_nil] at HX1
        have cib : decide (i < i) = false := decide_eq_false (by omega)
        go_wp2
        go_ret2
        exact ⟨_, rfl, by rw [← HX1]; exact Kd.R_mono HO.out (fun _ _ => trivial), HB2.out.trans (HB.out.mono HB2.out.size)⟩
theorem voice_Unframe.calls (A0 : Option Addr) (c0 : Nat) (l0 : List Int) (r1 : List Int) (r2 : Int) (w : World) (hr0 : Kd.C (Kd.int .u8) w A0 l0.length l0) (hc0 : l0.length ≤ c0) (h : voice_Unframe.f l0 = some (r1, r2)) :
    Calls Try.prog 21 #[.slice A0 l0.length c0] w fun e w' => ∃ v0_ : Value, e = .returned (.tuple #[v0_, .int .i64 r2]) ∧ Kd.R (Kd.int .i64) 3 w' w.heap.size (fun _ => True) v0_ r1 ∧ Below w.heap.size w w' := by
  unfold voice_Unframe.f at h
  cases hy : vBytes l0 with
  | false => rw [if_neg (by rw [hy]; decide)] at h; cases h
  | true =>
    rw [if_pos hy] at h
    cases hv : vUnOk l0 with
    | false =>
      rw [if_neg (by rw [hv]; decide)] at h
      simp only [Option.some.injEq, Prod.mk.injEq] at h
      obtain ⟨rfl, rfl⟩ := h
      exact voice_Unframe.fails A0 c0 l0 w hr0 hc0 hy hv
    | true =>
      rw [if_pos hv] at h
      simp only [Option.some.injEq, Prod.mk.injEq] at h
      obtain ⟨rfl, rfl⟩ := h
      exact voice_Unframe.does A0 c0 l0 w hr0 hc0 hy hv

/-! ### wireglassref25_Unframe: function 22 -/
-- EXT rounds=0 making=1
-- STATE wireglassref25.Coder
def wireglassref25_Unframe.f (b : List Int) : Option (List Int × Int) := voice_Unframe.f b
set_option maxHeartbeats 8000000 in
set_option maxRecDepth 100000 in
theorem rUnframe.fails (A0 : Option Addr) (c0 : Nat) (l0 : List Int) (w : World) (hr0 : Kd.C (Kd.int .u8) w A0 l0.length l0) (hc0 : l0.length ≤ c0) (hy : vBytes l0 = true) (h : vUnOk l0 = false) :
    Calls Try.prog 22 #[.slice A0 l0.length c0] w fun e w' => ∃ v0_ : Value, e = .returned (.tuple #[v0_, .int .i64 11]) ∧ Kd.R (Kd.int .i64) 3 w' w.heap.size (fun _ => True) v0_ [] ∧ Below w.heap.size w w' := by
  have hm := Kd.C_max hr0
  have HR0 := Aside0.mk hr0
  have HC0 := Aside0.mk hc0
  have HY := Aside0.mk hy
  clear hr0 hc0 hy
  have H := Aside0.mk h
  clear h
  by_cases c1 : (l0.length : Int) < 4
  · have c1b0 : decide ((l0.length : Int) < 4) = true := decide_eq_true c1
    have c1b1 : decide (l0.length < 4) = true := decide_eq_true (by omega)
    clear c1
    go_enter Try.func22, Try.ntmps22
    go_wp2
    go_ret2
    exact ⟨.slice none 0 0, rfl, Kd.R_nil _ _ _ _ _, by repeat (first | exact Below.refl _ _ | apply pw_below_drewN | apply below_drew1)⟩
  have c1b0 : decide ((l0.length : Int) < 4) = false := decide_eq_false c1
  have c1b1 : decide (l0.length < 4) = false := decide_eq_false (by omega)
  obtain ⟨ad, e, hx3⟩ := Kd.at_int HR0.out 3 (by omega) (by omega)
  cases e
  obtain ⟨ad', e, hx2⟩ := Kd.at_int HR0.out 2 (by omega) (by omega)
  cases e
  obtain ⟨hn0, hn1⟩ := vBytes_rd HY.out 3 (by omega) (by omega)
  obtain ⟨hk0, hk1⟩ := vBytes_rd HY.out 2 (by omega) (by omega)
  obtain ⟨ad', e, hxl⟩ := Kd.at_int HR0.out ((l0.length : Int) - 1) (by omega) (by omega)
  cases e
  have hbl := vBytes_rd HY.out ((l0.length : Int) - 1) (by omega) (by omega)
  have hand := and8_15 _ hbl.1 hbl.2
  obtain ⟨x3, h3⟩ : ∃ x, rd l0 3 = x := ⟨_, rfl⟩
  obtain ⟨x2, h2⟩ : ∃ x, rd l0 2 = x := ⟨_, rfl⟩
  obtain ⟨xl, hl⟩ : ∃ x, rd l0 ((l0.length : Int) - 1) = x := ⟨_, rfl⟩
  have HH : Aside0 (¬ (x3 ≠ 0 ∧ x2 ≤ 88 ∧ (l0.length : Int) = 4 + (x3 + 1) / 2 ∧ ¬ (x3 % 2 = 1 ∧ xl % 16 ≠ 0))) := ⟨by
    have h := H.out
    unfold vUnOk at h
    rw [decide_eq_false_iff_not, h3, h2, hl] at h
    exact fun h' => h ⟨by omega, h'⟩⟩
  rw [h3] at hx3 hn0 hn1
  rw [h2] at hx2 hk0 hk1
  rw [hl] at hxl hbl hand
  clear h3 h2 hl H
  simp only [Int.reduceToNat, Nat.reduceEqDiff, Go.Addr.add, ↓reduceIte] at hx3 hx2
  have hwl : IntKind.i64.wrap ((l0.length : Int) - 1) = (l0.length : Int) - 1 := by rw [i64_w]; unfold wrap64; omega
  have hxm := hxl
  rw [show ((l0.length : Int) - 1).toNat = l0.length - 1 by omega] at hxm
  have q1 : (0 : Int) ≤ (l0.length : Int) - 1 := by omega
  have q2 : (l0.length : Int) - 1 < l0.length := by omega
  by_cases c3 : 88 < x2
  · have c3b : decide (88 < x2) = true := decide_eq_true c3
    clear hbl hand
    go_enter Try.func22, Try.ntmps22
    go_wp2
    go_ret2
    exact ⟨.slice none 0 0, rfl, Kd.R_nil _ _ _ _ _, by repeat (first | exact Below.refl _ _ | apply pw_below_drewN | apply below_drew1)⟩
  have c3b : decide (88 < x2) = false := decide_eq_false c3
  by_cases c2 : x3 = 0
  · subst c2
    clear hbl hand
    go_enter Try.func22, Try.ntmps22
    go_wp2
    go_ret2
    exact ⟨.slice none 0 0, rfl, Kd.R_nil _ _ _ _ _, by repeat (first | exact Below.refl _ _ | apply pw_below_drewN | apply below_drew1)⟩
  have c2b : (x3 == 0) = false := by simpa using c2
  have c2c : (x3 != 0) = true := by simpa using c2
  by_cases c4 : (l0.length : Int) = 4 + (x3 + 1) / 2
  · have c4b : ((l0.length : Int) == 4 + (x3 + 1) / 2) = true := by simpa using c4
    have c4c : ((l0.length : Int) != 4 + (x3 + 1) / 2) = false := by simp [c4]
    by_cases c5 : x3 % 2 = 1
    · have c5b : (x3 % 2 == 1) = true := by simpa using c5
      by_cases c6 : xl % 16 = 0
      · exact absurd ⟨c2, by omega, c4, fun h => h.2 c6⟩ HH.out
      · have c6b : (xl % 16 == 0) = false := by simpa using c6
        have c6c : (xl % 16 != 0) = true := by simpa using c6
        obtain ⟨hbl0, hbl1⟩ := hbl
        clear c2 c3 c4 c5 c6
        go_enter Try.func22, Try.ntmps22
        go_wp2
        go_ret2
        exact ⟨.slice none 0 0, rfl, Kd.R_nil _ _ _ _ _, by repeat (first | exact Below.refl _ _ | apply pw_below_drewN | apply below_drew1)⟩
    · exact absurd ⟨c2, by omega, c4, fun h => c5 h.1⟩ HH.out
  · have c4b : ((l0.length : Int) == 4 + (x3 + 1) / 2) = false := by simpa using c4
    have c4c : ((l0.length : Int) != 4 + (x3 + 1) / 2) = true := by simpa using c4
    clear hbl hand c2 c3 c4
    go_enter Try.func22, Try.ntmps22
    go_wp2
    go_ret2
    exact ⟨.slice none 0 0, rfl, Kd.R_nil _ _ _ _ _, by repeat (first | exact Below.refl _ _ | apply pw_below_drewN | apply below_drew1)⟩
/-- Behind the frame's head: the coder stands at p0, k0. -/
def rUnAt (w w' : World) (g : Nat) (p k : Int) : Prop := ∃ w1, IsS53 w1 w' g p k (vStepsL 89) ∧ Below w1.heap.size w1 w' ∧ Below w.heap.size w w1
set_option maxHeartbeats 8000000 in
set_option maxRecDepth 100000 in
theorem rUnframe.does (A0 : Option Addr) (c0 : Nat) (l0 : List Int) (w : World) (hr0 : Kd.C (Kd.int .u8) w A0 l0.length l0) (hc0 : l0.length ≤ c0) (hy : vBytes l0 = true) (h : vUnOk l0 = true) :
    Calls Try.prog 22 #[.slice A0 l0.length c0] w fun e w' => ∃ v0_ : Value, e = .returned (.tuple #[v0_, .int .i64 0]) ∧ Kd.R (Kd.int .i64) 3 w' w.heap.size (fun _ => True) v0_ (vUn l0 (rd l0 3).toNat 0 (vP0 l0) (rd l0 2)) ∧ Below w.heap.size w w' := by
  have hm := Kd.C_max hr0
  have HR0 := Aside0.mk hr0
  have HC0 := Aside0.mk hc0
  have HY := Aside0.mk hy
  clear hr0 hc0 hy
  obtain ⟨c1, c2, c3, c4, c5⟩ := of_decide_eq_true h
  clear h
  have c1b0 : decide ((l0.length : Int) < 4) = false := decide_eq_false (by omega)
  have c1b1 : decide (l0.length < 4) = false := decide_eq_false (by omega)
  obtain ⟨ad, e, hx3⟩ := Kd.at_int HR0.out 3 (by omega) (by omega)
  cases e
  obtain ⟨ad', e, hx2⟩ := Kd.at_int HR0.out 2 (by omega) (by omega)
  cases e
  obtain ⟨ad', e, hxl⟩ := Kd.at_int HR0.out ((l0.length : Int) - 1) (by omega) (by omega)
  cases e
  obtain ⟨hn0, hn1⟩ := vBytes_rd HY.out 3 (by omega) (by omega)
  obtain ⟨hk0, hk1⟩ := vBytes_rd HY.out 2 (by omega) (by omega)
  have hbl := vBytes_rd HY.out ((l0.length : Int) - 1) (by omega) (by omega)
  have hand := and8_15 _ hbl.1 hbl.2
  obtain ⟨x3, h3⟩ : ∃ x, rd l0 3 = x := ⟨_, rfl⟩
  obtain ⟨x2, h2⟩ : ∃ x, rd l0 2 = x := ⟨_, rfl⟩
  obtain ⟨xl, hl⟩ : ∃ x, rd l0 ((l0.length : Int) - 1) = x := ⟨_, rfl⟩
  rw [h3] at hx3 hn0 hn1 c2 c4 c5
  rw [h2] at hx2 hk0 hk1 c3
  rw [hl] at hxl hbl hand c5
  rw [h3, h2]
  clear h3 h2 hl
  simp only [Int.reduceToNat, Nat.reduceEqDiff, Go.Addr.add, ↓reduceIte] at hx3 hx2
  have hwl : IntKind.i64.wrap ((l0.length : Int) - 1) = (l0.length : Int) - 1 := by rw [i64_w]; unfold wrap64; omega
  have hxm := hxl
  rw [show ((l0.length : Int) - 1).toNat = l0.length - 1 by omega] at hxm
  have q1 : (0 : Int) ≤ (l0.length : Int) - 1 := by omega
  have q2 : (l0.length : Int) - 1 < l0.length := by omega
  have c2b : (x3 == 0) = false := by simpa using c2
  have c2c : (x3 != 0) = true := by simpa using c2
  have c3b : decide (88 < x2) = false := decide_eq_false (by omega)
  have c4b : ((l0.length : Int) == 4 + (x3 + 1) / 2) = true := by simpa using c4
  have c4c : ((l0.length : Int) != 4 + (x3 + 1) / 2) = false := by simp [c4]
  obtain ⟨W, hW⟩ : ∃ W, w = W := ⟨_, rfl⟩
  have c5x : ((x3 % 2 == 1) = true ∧ (xl % 16 == 0) = true ∧ (xl % 16 != 0) = false) ∨ (x3 % 2 == 1) = false := by
    by_cases c : x3 % 2 = 1
    · have : xl % 16 = 0 := by
        by_cases c' : xl % 16 = 0
        · exact c'
        · exact absurd ⟨c, c'⟩ c5
      left; simp [c, this]
    · right; simpa using c
  clear hW W
  have HC4 := Aside0.mk c4
  obtain ⟨hbl0, hbl1⟩ := hbl
  clear c2 c4 c5
  obtain ⟨hy00, hy01⟩ := vBytes_rd HY.out 0 (by omega) (by omega)
  obtain ⟨hy10, hy11⟩ := vBytes_rd HY.out 1 (by omega) (by omega)
  have HY0 := Aside0.mk (And.intro hy00 hy01)
  have HY1 := Aside0.mk (And.intro hy10 hy11)
  have hwx : IntKind.i64.wrap x2 = x2 := by rw [i64_w]; unfold wrap64; omega
  have hs0 : (0 : Int) < (l0.length : Int) := by omega
  have hs00 : (1 : Int) < (l0.length : Int) := by omega
  have hs1 : (2 : Int) ≤ (c0 : Int) := by have := HC0.out; omega
  have hs2 : 2 ≤ c0 := by omega
  have hs3 : (2 : Int) < (l0.length : Int) := by omega
  have hs4 : 2 < l0.length := by omega
  have hs5 : decide ((2 : Int) < (l0.length : Int)) = true := decide_eq_true hs3
  have hs6 : decide ((2 : Int) ≤ (c0 : Int)) = true := decide_eq_true hs1
  obtain ⟨ad', e, hxa⟩ := Kd.at_int HR0.out 0 (by omega) (by omega)
  cases e
  obtain ⟨ad', e, hxb⟩ := Kd.at_int HR0.out 1 (by omega) (by omega)
  cases e
  simp only [Int.reduceToNat, Nat.reduceEqDiff, Go.Addr.add, ↓reduceIte] at hxa hxb
  obtain ⟨b0, hb0⟩ : ∃ x, rd l0 0 = x := ⟨_, rfl⟩
  obtain ⟨b1, hb1⟩ : ∃ x, rd l0 1 = x := ⟨_, rfl⟩
  have HV : Aside0 (vP0 l0 = if 256 * b0 + b1 > 32767 then 256 * b0 + b1 - 65536 else 256 * b0 + b1) := ⟨by unfold vP0; rw [hb0, hb1]⟩
  rw [hb0] at hxa HY0
  rw [hb1] at hxb HY1
  have hy00 := HY0.out.1
  have hy01 := HY0.out.2
  have hy10 := HY1.out.1
  have hy11 := HY1.out.2
  clear hb0 hb1
  obtain ⟨R, hR⟩ : ∃ R, vUn l0 x3.toNat 0 (vP0 l0) x2 = R := ⟨_, rfl⟩
  rw [hR]
  have HX0 := Aside0.mk hR
  clear hR
  rcases c5x with ⟨d1, d2, d3⟩ | d1
  all_goals
    go_enter Try.func22, Try.ntmps22
    go_upto_region 7 with (go_at_call 9; (with_reducible refine (wireglassref25_NewCoder.calls _).mono ?_); rintro e w2 ⟨g, w1, rfl, hI, hb, hb2⟩; have HI := Aside0.mk hI; have HB := Aside0.mk hb; have HB2 : Aside0 (Below w.heap.size w w1) := ⟨(pw_below_drewN (Below.refl _ w) 0).trans hb2⟩; clear hI hb hb2)
    obtain ⟨A2, c2, HG, hg, hc⟩ := HI.out
    have k0 := cellS53_0 HG
    have k1 := cellS53_1 HG
    have k2 := blk_frozen HG 0
    have k3 := blk_frozen HG 1
    have hgw : w.heap.size ≤ g := Nat.le_trans HB2.out.size hg
    have hbw : Below w.heap.size w w2 := HB2.out.trans (HB.out.mono HB2.out.size)
    have hne : ad.block ≠ g := by have := Kd.C_lt HR0.out (by omega) (by decide); omega
    have hz0 := pw_cell_below hbw hxa
    have hz1 := pw_cell_below hbw hxb
    have hz2 := pw_cell_below hbw hx2
    have HZ0 := Aside0.mk hz0
    have HZ1 := Aside0.mk hz1
    have HZ2 := Aside0.mk hz2
    have HFG := Aside0.mk hne
    clear HG hg hc hbw hx2 hx3 hxl hxm hgw hxa hxb hne
    go_cut [5] from 9 (fun s5 wx => s5 = .pointer (some ⟨g, 0, none⟩) ∧ rUnAt w wx g (256 * b0 + b1) x2)
    case first =>
      go_region
      all_goals go_wp2
      all_goals go_meet
      all_goals (refine ⟨rfl, w1, ?_, ?_, HB2.out⟩)
      all_goals (first
        | exact IsS53.set_1 (IsS53.set_0 (IsS53.drewN HI.out _) _) _
        | exact IsS53.set_0 (IsS53.set_1 (IsS53.drewN HI.out _) _) _
        | exact below_set (below_set (pw_below_drewN HB.out _) (IsS53.ge HI.out)) (IsS53.ge HI.out))
    clear hz0 hz1 hz2 k0 k1 k2 k3 HZ0 HZ1 HZ2 HI HB HB2
    obtain ⟨rfl, w1, hI, hb, hb2⟩ := hcut
    have HI := Aside0.mk hI
    have HB := Aside0.mk hb
    have HB2 := Aside0.mk hb2
    obtain ⟨A2, c2, HG, hg, hc⟩ := hI
    have k0 := cellS53_0 HG
    have k1 := cellS53_1 HG
    have k2 := blk_frozen HG 0
    have k3 := blk_frozen HG 1
    clear HG hg hc hb hb2
    go_upto_if 79 with (fail)
    go_cut [5] from 9 (fun s5 wx => s5 = .pointer (some ⟨g, 0, none⟩) ∧ rUnAt w wx g (vP0 l0) x2)
    case first =>
      by_cases hp : 32767 < 256 * b0 + b1
      · have hpb : decide (32767 < 256 * b0 + b1) = true := decide_eq_true hp
        have hP : Aside0 (vP0 l0 = 256 * b0 + b1 - 65536) := ⟨by rw [HV.out]; exact if_pos hp⟩
        go_wp2
        all_goals try go_region
        all_goals try go_wp2
        all_goals go_meet
        all_goals (refine ⟨rfl, w1, ?_, ?_, HB2.out⟩)
        all_goals try rw [hP.out]
        all_goals (first
          | exact IsS53.set_0 HI.out _
          | exact IsS53.set_0 (IsS53.drew HI.out) _
          | exact IsS53.drew (IsS53.set_0 HI.out _)
          | exact IsS53.set_0 (IsS53.drewN HI.out _) _
          | exact below_set HB.out (IsS53.ge HI.out)
          | exact below_set (below_drew1 HB.out) (IsS53.ge HI.out)
          | exact below_drew1 (below_set HB.out (IsS53.ge HI.out))
          | exact below_set (pw_below_drewN HB.out _) (IsS53.ge HI.out))
      · have hpb : decide (32767 < 256 * b0 + b1) = false := decide_eq_false hp
        have hP : Aside0 (vP0 l0 = 256 * b0 + b1) := ⟨by rw [HV.out]; exact if_neg hp⟩
        go_wp2
        go_meet
        case rel => exact ⟨rfl, w1, by rw [hP.out]; exact HI.out, HB.out, HB2.out⟩
    clear k0 k1 k2 k3 HI HB HB2 HFG
    obtain ⟨rfl, w1, hI, hb, hb2⟩ := hcut
    have HI0 := Aside0.mk hI
    have HB := Aside0.mk hb
    have HB2 := Aside0.mk hb2
    clear hI hb hb2
    have hp00 : -32768 ≤ vP0 l0 ∧ vP0 l0 ≤ 32767 := by rw [HV.out]; split <;> omega
    have HBD := Aside0.mk hp00
    clear hp00 hy00 hy01 hy10 hy11
    go_wp2
    go_loopg [6, 7] x3.toNat (fun kq v6 v64 w' => ∃ (i : Int) (xs : List Int) (p k : Int), v64 = .int .i64 i ∧ 0 ≤ i ∧ i + kq = x3 ∧ Aside0 ((-32768 ≤ p ∧ p ≤ 32767) ∧ 0 ≤ k ∧ k ≤ 88) ∧ Aside0 (xs.length = i.toNat) ∧ Aside0 (xs ++ vUn l0 kq i p k = R) ∧ Aside0 (Kd.R (Kd.int .i64) 3 w' w.heap.size (fun k => w1.heap.size ≤ k) v6 xs) ∧ Aside0 (IsS53 w1 w' g p k (vStepsL 89)) ∧ Aside0 (Below w1.heap.size w1 w'))
    case atStart => exact ⟨0, [], vP0 l0, x2, rfl, by omega, by omega, ⟨HBD.out, hk0, c3⟩, ⟨rfl⟩, HX0, ⟨Kd.R_nil _ _ _ _ _⟩, HI0, HB⟩
    case round =>
      clear HX0 HI0 HB HBD
      obtain ⟨i, xs, p, k, rfl, hi0, hik, HBD, HLN, HX, HO, HI0, HB⟩ := hrel
      have HLX : Aside0 (xs.length ≤ 300) := ⟨by have := HLN.out; omega⟩
      by_cases ci : i < x3
      · obtain ⟨q, rfl⟩ : ∃ q, gk = q + 1 := ⟨gk - 1, by omega⟩
        have cib : decide (i < x3) = true := decide_eq_true ci
        have hix0 : 0 ≤ 4 + i / 2 := by omega
        have hix1 : 4 + i / 2 < (l0.length : Int) := by have := HC4.out; omega
        obtain ⟨ad', e, hxi⟩ := Kd.at_int HR0.out (4 + i / 2) hix0 hix1
        cases e
        replace hxi := pw_cell_below HB.out (pw_cell_below HB2.out hxi)
        obtain ⟨hb0, hb1⟩ := vBytes_rd HY.out (4 + i / 2) hix0 hix1
        have HX1 := HX.out
        rw [vUn] at HX1
        obtain ⟨y, hy⟩ : ∃ y, rd l0 (4 + i / 2) = y := ⟨_, rfl⟩
        obtain ⟨cc, hcc⟩ : ∃ cc, vNib l0 i = cc := ⟨_, rfl⟩
        rw [hcc] at HX1
        have hcc' := hcc
        unfold vNib at hcc'
        rw [hy] at hxi hb0 hb1 hcc'
        have HX := Aside0.mk HX1
        clear HX1 hcc hy
        have hy16 : y / 16 % 16 = y / 16 := by omega
        have hcr : 0 ≤ cc ∧ cc < 16 := by rw [← hcc']; split <;> omega
        have HOK : Aside0 (wireglassref25_Coder_decode.f p k (vStepsL 89) cc = some (vP p (rd (vStepsL 89) k) cc, vP p (rd (vStepsL 89) k) cc, vK k cc)) := ⟨by unfold wireglassref25_Coder_decode.f; rw [if_pos (vOk_steps HBD.out.2.1 HBD.out.2.2 hcr.1 hcr.2 HBD.out.1.1 HBD.out.1.2)]⟩
        clear hcr
        by_cases cp : i % 2 = 0
        · rw [if_pos cp] at hcc'
          subst hcc'
          go_wp2_with (first
            | (go_at_call 33; (with_reducible refine (wireglassref25_Coder_decode.calls g p k (vStepsL 89) (y / 16) (vP p (rd (vStepsL 89) k) (y / 16)) (vP p (rd (vStepsL 89) k) (y / 16)) (vK k (y / 16)) w1 _ ?side1 ?side2 HOK.out).mono ?_); (case side1 => repeat (first | (with_reducible first | exact HI0.out | apply IsS53.alloc | apply IsS53.drewN | apply IsS53.drew) | exact HI0.out)); (case side2 => repeat (first | (with_reducible first | exact HB.out | apply below_alloc | apply pw_below_drewN | apply below_drew1) | exact HB.out)); rintro e w18 ⟨rfl, hi, hb, hk⟩; have n0_ := Aside0.mk (Kd.R_mono (Kd.R_keep (IsS53.apart (show IsS53 w1 _ g p k (vStepsL 89) from by repeat (first | (with_reducible first | exact HI0.out | apply IsS53.alloc | apply IsS53.drewN | apply IsS53.drew) | exact HI0.out)) (by (with_reducible repeat (first | apply Kd.R_alloc | apply Kd.R_drewN | apply Kd.R_drew)); exact HO.out) (by decide)) hk (fun _ h => h.2)) (fun _ h => h.1)); have n2_ := Aside0.mk hb; have n3_ := Aside0.mk hi; clear HO HB HI0; have HO := n0_; have HB := n2_; have HI0 := n3_; clear n0_ n2_ n3_ hb hk hi)
            | (at_builtin; refine Kd.R_append (Kd.int .i64) w.heap.size rfl (.tmp 104) (.tmp 109) 22 3 (.int .i64 0) 8 rfl Try.underlying22 info3 rfl (by decide) (by omega) _ xs (vP p (rd (vStepsL 89) k) (y / 16)) [.int .i64 (vP p (rd (vStepsL 89) k) (y / 16))] (fun k => w1.heap.size ≤ k) (fun _ => False) rfl rfl ?aP (fun _ hk => hk.elim) ?aF ?aO (Below.refl _ _) ?aS ?aL ?_; (case aP => exact rfl); (case aF => intro k_ hk_; have := HB.out.size; omega); (case aO => exact (by (with_reducible repeat (first | apply Kd.R_alloc | apply Kd.R_drewN | apply Kd.R_drew)); exact HO.out)); (case aS => have := HB.out.size; have := HB2.out.size; omega); (case aL => have := HLX.out; omega); intro v129 w19 ho hb hg hat; have n0_ := Aside0.mk (IsS53.grown (by repeat (first | (with_reducible first | exact HI0.out | apply IsS53.alloc | apply IsS53.drewN | apply IsS53.drew) | exact HI0.out)) hg (IsS53.own_ne HI0.out HO.out (by decide))); have n1_ := Aside0.mk (below_from_ HB.out hg (fun k_ e_ => HO.out.1 k_ e_)); have n3_ := Aside0.mk ho; clear HI0 HB HO; have HI0 := n0_; have HB := n1_; have HO := n3_; clear n0_ n1_ n3_ ho hb hg hat))
          go_roundg q
          case measure => omega
          case rel => exact ⟨i + 1, _, _, _, by go_num, by omega, by omega, ⟨vP_bd _ _ _, vK_bd _ _⟩, ⟨by have := HLN.out; rw [List.length_append, List.length_singleton]; omega⟩, ⟨by rw [List.append_assoc]; exact HX.out⟩, HO, HI0, HB⟩
        · rw [if_neg cp] at hcc'
          subst hcc'
          have cp1 : i % 2 = 1 := by omega
          clear hy16 cp
          go_wp2_with (first
            | (go_at_call 33; (with_reducible refine (wireglassref25_Coder_decode.calls g p k (vStepsL 89) (y % 16) (vP p (rd (vStepsL 89) k) (y % 16)) (vP p (rd (vStepsL 89) k) (y % 16)) (vK k (y % 16)) w1 _ ?side1 ?side2 HOK.out).mono ?_); (case side1 => repeat (first | (with_reducible first | exact HI0.out | apply IsS53.alloc | apply IsS53.drewN | apply IsS53.drew) | exact HI0.out)); (case side2 => repeat (first | (with_reducible first | exact HB.out | apply below_alloc | apply pw_below_drewN | apply below_drew1) | exact HB.out)); rintro e w18 ⟨rfl, hi, hb, hk⟩; have n0_ := Aside0.mk (Kd.R_mono (Kd.R_keep (IsS53.apart (show IsS53 w1 _ g p k (vStepsL 89) from by repeat (first | (with_reducible first | exact HI0.out | apply IsS53.alloc | apply IsS53.drewN | apply IsS53.drew) | exact HI0.out)) (by (with_reducible repeat (first | apply Kd.R_alloc | apply Kd.R_drewN | apply Kd.R_drew)); exact HO.out) (by decide)) hk (fun _ h => h.2)) (fun _ h => h.1)); have n2_ := Aside0.mk hb; have n3_ := Aside0.mk hi; clear HO HB HI0; have HO := n0_; have HB := n2_; have HI0 := n3_; clear n0_ n2_ n3_ hb hk hi)
            | (at_builtin; refine Kd.R_append (Kd.int .i64) w.heap.size rfl (.tmp 104) (.tmp 109) 22 3 (.int .i64 0) 8 rfl Try.underlying22 info3 rfl (by decide) (by omega) _ xs (vP p (rd (vStepsL 89) k) (y % 16)) [.int .i64 (vP p (rd (vStepsL 89) k) (y % 16))] (fun k => w1.heap.size ≤ k) (fun _ => False) rfl rfl ?aP (fun _ hk => hk.elim) ?aF ?aO (Below.refl _ _) ?aS ?aL ?_; (case aP => exact rfl); (case aF => intro k_ hk_; have := HB.out.size; omega); (case aO => exact (by (with_reducible repeat (first | apply Kd.R_alloc | apply Kd.R_drewN | apply Kd.R_drew)); exact HO.out)); (case aS => have := HB.out.size; have := HB2.out.size; omega); (case aL => have := HLX.out; omega); intro v129 w19 ho hb hg hat; have n0_ := Aside0.mk (IsS53.grown (by repeat (first | (with_reducible first | exact HI0.out | apply IsS53.alloc | apply IsS53.drewN | apply IsS53.drew) | exact HI0.out)) hg (IsS53.own_ne HI0.out HO.out (by decide))); have n1_ := Aside0.mk (below_from_ HB.out hg (fun k_ e_ => HO.out.1 k_ e_)); have n3_ := Aside0.mk ho; clear HI0 HB HO; have HI0 := n0_; have HB := n1_; have HO := n3_; clear n0_ n1_ n3_ ho hb hg hat))
          go_roundg q
          case measure => omega
          case rel => exact ⟨i + 1, _, _, _, by go_num, by omega, by omega, ⟨vP_bd _ _ _, vK_bd _ _⟩, ⟨by have := HLN.out; rw [List.length_append, List.length_singleton]; omega⟩, ⟨by rw [List.append_assoc]; exact HX.out⟩, HO, HI0, HB⟩
      · obtain rfl : i = x3 := by omega
        have hq : gk = 0 := by omega
        subst hq
        have HX1 := HX.out
        rw [vUn, List.append_nil] at HX1
        have cib : decide (i < i) = false := decide_eq_false (by omega)
        go_wp2
        go_ret2
        exact ⟨_, rfl, by rw [← HX1]; exact Kd.R_mono HO.out (fun _ _ => trivial), HB2.out.trans (HB.out.mono HB2.out.size)⟩
theorem wireglassref25_Unframe.calls (A0 : Option Addr) (c0 : Nat) (l0 : List Int) (r1 : List Int) (r2 : Int) (w : World) (hr0 : Kd.C (Kd.int .u8) w A0 l0.length l0) (hc0 : l0.length ≤ c0) (h : wireglassref25_Unframe.f l0 = some (r1, r2)) :
    Calls Try.prog 22 #[.slice A0 l0.length c0] w fun e w' => ∃ v0_ : Value, e = .returned (.tuple #[v0_, .int .i64 r2]) ∧ Kd.R (Kd.int .i64) 3 w' w.heap.size (fun _ => True) v0_ r1 ∧ Below w.heap.size w w' := by
  unfold wireglassref25_Unframe.f voice_Unframe.f at h
  cases hy : vBytes l0 with
  | false => rw [if_neg (by rw [hy]; decide)] at h; cases h
  | true =>
    rw [if_pos hy] at h
    cases hv : vUnOk l0 with
    | false =>
      rw [if_neg (by rw [hv]; decide)] at h
      simp only [Option.some.injEq, Prod.mk.injEq] at h
      obtain ⟨rfl, rfl⟩ := h
      exact rUnframe.fails A0 c0 l0 w hr0 hc0 hy hv
    | true =>
      rw [if_pos hv] at h
      simp only [Option.some.injEq, Prod.mk.injEq] at h
      obtain ⟨rfl, rfl⟩ := h
      exact rUnframe.does A0 c0 l0 w hr0 hc0 hy hv

/-! ### wireglasslaw25_VoiceFrames: function 4 -/
def wireglasslaw25_VoiceFrames.f (k : Nat) (l0 : List Int) (a1_0 : Int) (a1_1 : Int) (l2 : List Int) : Option (Bool) := if (wrap64 ((l0.length : Int) + (l2.length : Int))) > 40000 then ((wireglasslaw25_known.f k).bind fun t182 => (some t182)) else ((voice_Frame.f k l0 a1_0 a1_1).bind fun bt183 => ((wireglassref25_Frame.f k l0 a1_0 a1_1).bind fun bt187 => ((voice_Unframe.f l2).bind fun bt191 => ((wireglassref25_Unframe.f l2).bind fun bt195 => (if (strOfNums bt183.1).toList = (strOfNums bt187.1).toList then (if bt183.2 = bt187.2 then ((wireglassref02_SameInts.f k bt191.1 bt195.1).bind fun t199 => (if t199 = true then (if bt191.2 = bt195.2 then ((wireglasslaw25_known.f k).bind fun t200 => (some t200)) else (some false)) else (some false))) else (some false)) else (some false))))))
theorem wireglasslaw25_VoiceFrames.mono : ∀ a0 a1 a2 a3 k, LeO (wireglasslaw25_VoiceFrames.f k a0 a1 a2 a3) (wireglasslaw25_VoiceFrames.f (k + 1) a0 a1 a2 a3) := by
  intro a0 a1 a2 a3 k
  unfold wireglasslaw25_VoiceFrames.f
  repeat' first
      | (with_reducible exact voice_Frame.mono _ _ _ _)
      | (with_reducible exact wireglasslaw25_known.mono _)
      | (with_reducible exact wireglassref02_SameInts.mono _ _ _)
      | (with_reducible exact wireglassref25_Frame.mono _ _ _ _)
      | (with_reducible exact LeO.refl _)
      | (with_reducible exact LeO.none _)
      | (with_reducible refine LeO.ite ?_ ?_)
      | (with_reducible refine LeO.bind ?_ (fun _ => ?_))
      | exact voice_Frame.mono _ _ _ _
      | exact wireglasslaw25_known.mono _
      | exact wireglassref02_SameInts.mono _ _ _
      | exact wireglassref25_Frame.mono _ _ _ _
      | exact LeO.none _
      | refine LeO.ite ?_ ?_
      | refine LeO.bind ?_ (fun _ => ?_)
set_option maxHeartbeats 8000000 in
set_option maxRecDepth 100000 in
theorem wireglasslaw25_VoiceFrames.calls (k : Nat) (A0 : Option Addr) (c0 : Nat) (l0 : List Int) (a1_0 : Int) (a1_1 : Int) (A2 : Option Addr) (c2 : Nat) (l2 : List Int) (r : Bool) (w : World) (hr0 : Kd.C (Kd.int .i64) w A0 l0.length l0) (hc0 : l0.length ≤ c0) (hr2 : Kd.C (Kd.int .u8) w A2 l2.length l2) (hc2 : l2.length ≤ c2) (h : wireglasslaw25_VoiceFrames.f k l0 a1_0 a1_1 l2 = some r) :
    Calls Try.prog 4 #[.slice A0 l0.length c0, .agg #[.int .i64 a1_0, .int .i64 a1_1], .slice A2 l2.length c2] w fun e w' => e = .returned (.bool r) ∧ Below w.heap.size w w' := by
  have hu36 := Try.underlying36
  have HR0 := Aside0.mk hr0
  have HC0 := Aside0.mk hc0
  clear hr0 hc0
  have HR2 := Aside0.mk hr2
  have HC2 := Aside0.mk hc2
  clear hr2 hc2
  have HB := Aside0.mk (Below.refl w.heap.size w)
  have H : (if (wrap64 ((l0.length : Int) + (l2.length : Int))) > 40000 then ((wireglasslaw25_known.f k).bind fun t182 => (some t182)) else ((voice_Frame.f k l0 a1_0 a1_1).bind fun bt183 => ((wireglassref25_Frame.f k l0 a1_0 a1_1).bind fun bt187 => ((voice_Unframe.f l2).bind fun bt191 => ((wireglassref25_Unframe.f l2).bind fun bt195 => (if (strOfNums bt183.1).toList = (strOfNums bt187.1).toList then (if bt183.2 = bt187.2 then ((wireglassref02_SameInts.f k bt191.1 bt195.1).bind fun t199 => (if t199 = true then (if bt191.2 = bt195.2 then ((wireglasslaw25_known.f k).bind fun t200 => (some t200)) else (some false)) else (some false))) else (some false)) else (some false))))))) = some r := h
  clear h
  by_cases c4 : (wrap64 ((l0.length : Int) + (l2.length : Int))) > 40000
  · rw [if_pos c4] at H
    have c4b0 : decide (40000 < (wrap64 ((l0.length : Int) + (l2.length : Int)))) = true := decide_eq_true c4
    clear c4
    replace H := Option.bind_eq_some_iff.mp H
    obtain ⟨t182, A50, H⟩ := H
    replace H : (some t182) = some r := H
    have A5 := Aside0.mk A50
    clear A50
    obtain rfl := Option.some.inj H
    go_enter Try.func4, Try.ntmps4
    go_wp2_with (first | ((with_reducible refine gate_dst (N := 4) rfl ?_); refine box_event ?hg (N := 4) ?hd (cs := #[.int .i64 a1_0, .int .i64 a1_1]) (t := 36) ?hr ?_; (case hd => rfl); (case hg => rfl); (case hr => first | (go_simp; done) | (go_simp; rfl)); intro gb181 hg w6 hbox hb; have n0_ := Aside0.mk (below_step (by repeat (first | (with_reducible first | exact HB.out | apply below_alloc | apply pw_below_drewN | apply below_drew1) | exact HB.out)) hb); have n1_ := Aside0.mk (hbox); have n2_ := Aside0.mk ((by rw [hg]; exact (below_size (by repeat (first | (with_reducible first | exact HB.out | apply below_alloc | apply pw_below_drewN | apply below_drew1) | exact HB.out))) : w.heap.size ≤ gb181)); have n3_ := Aside0.mk ((by rw [hg]; exact (below_size (by repeat (first | (with_reducible first | exact HB.out | apply below_alloc | apply pw_below_drewN | apply below_drew1) | exact HB.out))) : w.heap.size ≤ gb181)); clear HB; have HB := n0_; have BK181 := n1_; have GW181 := n2_; have GE181 := n3_; clear n0_ n1_ n2_ n3_; clear hb hbox hg) | ((with_reducible refine gate_callee (f := 7) rfl ?_); refine goesL_ (some 21) rfl rfl Try.func7 (by kernel_rfl) rfl #[] rfl (by (try simp only [List.map_toArray, List.map_cons, List.map_nil]); first | done | rfl | (simp only [List.length_drop, List.length_take]; rfl)) ?_; (with_reducible refine (wireglasslaw25_known.calls k  t182 _ A5.out).mono ?_); rintro e w7 ⟨rfl, hb⟩; refine ⟨_, rfl, ?_⟩; have n0_ := Aside0.mk (blk_below (g := gb181) (o := .cells #[.int .i64 a1_0, .int .i64 a1_1] 36 (0, 0)) (by (with_reducible repeat (first | refine blk_drewN ?_ _ | refine blk_drew ?_ | refine blk_alloc ?_ _)); exact BK181.out) hb); have n1_ := Aside0.mk (below_step (by repeat (first | (with_reducible first | exact HB.out | apply below_alloc | apply pw_below_drewN | apply below_drew1 | refine below_set ?_ GE181.out) | exact HB.out)) hb); clear BK181; clear HB; have BK181 := n0_; have HB := n1_; clear n0_ n1_; (try clear hb); (try clear hb2); (try clear hk); (try clear hi)))
    go_ret
    exact ⟨by first | rfl | (simp [errW_none, errW_some] <;> rfl) | (simp [*, errW_none, errW_some] <;> rfl), by repeat (first | (with_reducible first | exact HB.out | apply below_alloc | apply pw_below_drewN | apply below_drew1 | refine below_set ?_ GE181.out) | exact HB.out)⟩
  · rw [if_neg c4] at H
    have c4b0 : decide (40000 < (wrap64 ((l0.length : Int) + (l2.length : Int)))) = false := decide_eq_false c4
    clear c4
    replace H := Option.bind_eq_some_iff.mp H
    obtain ⟨⟨t183, t184⟩, A80, H⟩ := H
    replace H : ((wireglassref25_Frame.f k l0 a1_0 a1_1).bind fun bt187 => ((voice_Unframe.f l2).bind fun bt191 => ((wireglassref25_Unframe.f l2).bind fun bt195 => (if (strOfNums t183).toList = (strOfNums bt187.1).toList then (if t184 = bt187.2 then ((wireglassref02_SameInts.f k bt191.1 bt195.1).bind fun t199 => (if t199 = true then (if bt191.2 = bt195.2 then ((wireglasslaw25_known.f k).bind fun t200 => (some t200)) else (some false)) else (some false))) else (some false)) else (some false))))) = some r := H
    have A8 := Aside0.mk A80
    clear A80
    replace H := Option.bind_eq_some_iff.mp H
    obtain ⟨⟨t187, t188⟩, A90, H⟩ := H
    replace H : ((voice_Unframe.f l2).bind fun bt191 => ((wireglassref25_Unframe.f l2).bind fun bt195 => (if (strOfNums t183).toList = (strOfNums t187).toList then (if t184 = t188 then ((wireglassref02_SameInts.f k bt191.1 bt195.1).bind fun t199 => (if t199 = true then (if bt191.2 = bt195.2 then ((wireglasslaw25_known.f k).bind fun t200 => (some t200)) else (some false)) else (some false))) else (some false)) else (some false)))) = some r := H
    have A9 := Aside0.mk A90
    clear A90
    replace H := Option.bind_eq_some_iff.mp H
    obtain ⟨⟨t191, t192⟩, A100, H⟩ := H
    replace H : ((wireglassref25_Unframe.f l2).bind fun bt195 => (if (strOfNums t183).toList = (strOfNums t187).toList then (if t184 = t188 then ((wireglassref02_SameInts.f k t191 bt195.1).bind fun t199 => (if t199 = true then (if t192 = bt195.2 then ((wireglasslaw25_known.f k).bind fun t200 => (some t200)) else (some false)) else (some false))) else (some false)) else (some false))) = some r := H
    have A10 := Aside0.mk A100
    clear A100
    replace H := Option.bind_eq_some_iff.mp H
    obtain ⟨⟨t195, t196⟩, A110, H⟩ := H
    replace H : (if (strOfNums t183).toList = (strOfNums t187).toList then (if t184 = t188 then ((wireglassref02_SameInts.f k t191 t195).bind fun t199 => (if t199 = true then (if t192 = t196 then ((wireglasslaw25_known.f k).bind fun t200 => (some t200)) else (some false)) else (some false))) else (some false)) else (some false)) = some r := H
    have A11 := Aside0.mk A110
    clear A110
    by_cases c12 : (strOfNums t183).toList = (strOfNums t187).toList
    · rw [if_pos c12] at H
      have c12b0 : ((strOfNums t183).toList == (strOfNums t187).toList) = true := beq_iff_eq.mpr c12
      have c12b1 : ((strOfNums t183).toList != (strOfNums t187).toList) = false := bne_eq_false_iff_eq.mpr c12
      clear c12
      by_cases c13 : t184 = t188
      · rw [if_pos c13] at H
        have c13b0 : (t184 == t188) = true := beq_iff_eq.mpr c13
        have c13b1 : (t184 != t188) = false := bne_eq_false_iff_eq.mpr c13
        clear c13
        replace H := Option.bind_eq_some_iff.mp H
        obtain ⟨t199, A140, H⟩ := H
        replace H : (if t199 = true then (if t192 = t196 then ((wireglasslaw25_known.f k).bind fun t200 => (some t200)) else (some false)) else (some false)) = some r := H
        have A14 := Aside0.mk A140
        clear A140
        by_cases c15 : t199 = true
        · subst c15
          have H1 : (if t192 = t196 then ((wireglasslaw25_known.f k).bind fun t200 => (some t200)) else (some false)) = some r := by rw [if_pos rfl] at H; exact H
          clear H
          have H := H1
          clear H1
          by_cases c16 : t192 = t196
          · rw [if_pos c16] at H
            have c16b0 : (t192 == t196) = true := beq_iff_eq.mpr c16
            have c16b1 : (t192 != t196) = false := bne_eq_false_iff_eq.mpr c16
            clear c16
            replace H := Option.bind_eq_some_iff.mp H
            obtain ⟨t200, A170, H⟩ := H
            replace H : (some t200) = some r := H
            have A17 := Aside0.mk A170
            clear A170
            obtain rfl := Option.some.inj H
            go_enter Try.func4, Try.ntmps4
            go_wp2_with (first | ((with_reducible refine gate_dst (N := 4) rfl ?_); refine box_event ?hg (N := 4) ?hd (cs := #[.int .i64 a1_0, .int .i64 a1_1]) (t := 36) ?hr ?_; (case hd => rfl); (case hg => rfl); (case hr => first | (go_simp; done) | (go_simp; rfl)); intro gb181 hg w18 hbox hb; have n0_ := Aside0.mk (below_step (by repeat (first | (with_reducible first | exact HB.out | apply below_alloc | apply pw_below_drewN | apply below_drew1) | exact HB.out)) hb); have n1_ := Aside0.mk (hbox); have n2_ := Aside0.mk ((by rw [hg]; exact (below_size (by repeat (first | (with_reducible first | exact HB.out | apply below_alloc | apply pw_below_drewN | apply below_drew1) | exact HB.out))) : w.heap.size ≤ gb181)); have n3_ := Aside0.mk ((by rw [hg]; exact (below_size (by repeat (first | (with_reducible first | exact HB.out | apply below_alloc | apply pw_below_drewN | apply below_drew1) | exact HB.out))) : w.heap.size ≤ gb181)); clear HB; have HB := n0_; have BK181 := n1_; have GW181 := n2_; have GE181 := n3_; clear n0_ n1_ n2_ n3_; clear hb hbox hg; have hcz19_0 : w18.cell? ⟨gb181, 0, none⟩ = some (.int .i64 a1_0) := (blk_cell BK181.out 0).trans rfl; have hcz19_1 : w18.cell? ⟨gb181, 1, none⟩ = some (.int .i64 a1_1) := (blk_cell BK181.out 1).trans rfl; have hfz19_0 := blk_frozen BK181.out 0; have hfz19_1 := blk_frozen BK181.out 1) | ((with_reducible refine gate_callee (f := 19) rfl ?_); refine goesL_ (some 28) rfl rfl Try.func19 (by kernel_rfl) rfl #[.slice A0 l0.length c0, .int .i64 a1_0, .int .i64 a1_1] rfl (by (try simp only [List.map_toArray, List.map_cons, List.map_nil]); first | done | rfl | (simp only [List.length_drop, List.length_take]; rfl)) ?_; (with_reducible refine (voice_Frame.calls k _ _ l0 a1_0 a1_1 t183 t184 _ ?side1 ?side2 A8.out).mono ?_); (case side1 => repeat (first | exact (Kd.C_below HR0.out HB.out) | (with_reducible refine Kd.C_alloc ?_ _) | (with_reducible refine Kd.C_drewN ?_ _) | (with_reducible refine Kd.C_drew ?_))); (case side2 => exact HC0.out); rintro e w20 ⟨v185, rfl, ho0, hb⟩; refine ⟨_, rfl, ?_⟩; have n0_ := Aside0.mk (Kd.R_lower ho0 (below_size (by repeat (first | (with_reducible first | exact HB.out | apply below_alloc | apply pw_below_drewN | apply below_drew1 | refine below_set ?_ GE181.out) | exact HB.out)))); have n1_ := Aside0.mk (blk_below (g := gb181) (o := .cells #[.int .i64 a1_0, .int .i64 a1_1] 36 (0, 0)) (by (with_reducible repeat (first | refine blk_drewN ?_ _ | refine blk_drew ?_ | refine blk_alloc ?_ _)); exact BK181.out) hb); have n2_ := Aside0.mk (below_step (by repeat (first | (with_reducible first | exact HB.out | apply below_alloc | apply pw_below_drewN | apply below_drew1 | refine below_set ?_ GE181.out) | exact HB.out)) hb); clear BK181; clear HB; have HO186 := n0_; have BK181 := n1_; have HB := n2_; clear n0_ n1_ n2_; (try clear hb); (try clear hb2); (try clear hk); (try clear hi); (try clear ho0); have hcz21_0 : w20.cell? ⟨gb181, 0, none⟩ = some (.int .i64 a1_0) := (blk_cell BK181.out 0).trans rfl; have hcz21_1 : w20.cell? ⟨gb181, 1, none⟩ = some (.int .i64 a1_1) := (blk_cell BK181.out 1).trans rfl; have hfz21_0 := blk_frozen BK181.out 0; have hfz21_1 := blk_frozen BK181.out 1) | ((with_reducible refine gate_callee (f := 20) rfl ?_); refine goesL_ (some 37) rfl rfl Try.func20 (by kernel_rfl) rfl #[.slice A0 l0.length c0, .int .i64 a1_0, .int .i64 a1_1] rfl (by (try simp only [List.map_toArray, List.map_cons, List.map_nil]); first | done | rfl | (simp only [List.length_drop, List.length_take]; rfl)) ?_; (with_reducible refine (wireglassref25_Frame.calls k _ _ l0 a1_0 a1_1 t187 t188 _ ?side1 ?side2 A9.out).mono ?_); (case side1 => repeat (first | exact (Kd.C_below HR0.out HB.out) | (with_reducible refine Kd.C_alloc ?_ _) | (with_reducible refine Kd.C_drewN ?_ _) | (with_reducible refine Kd.C_drew ?_))); (case side2 => exact HC0.out); rintro e w22 ⟨v189, rfl, ho0, hb⟩; refine ⟨_, rfl, ?_⟩; have n0_ := Aside0.mk (Kd.R_elder' (by (with_reducible repeat (first | apply Kd.R_alloc | apply Kd.R_drewN | apply Kd.R_drew)); exact HO186.out) (Kd.R_base ho0) hb); have n1_ := Aside0.mk (Kd.R_lower (Kd.R_new' ho0 (Kd.R_lt (by (with_reducible repeat (first | apply Kd.R_alloc | apply Kd.R_drewN | apply Kd.R_drew)); exact HO186.out))) (below_size (by repeat (first | (with_reducible first | exact HB.out | apply below_alloc | apply pw_below_drewN | apply below_drew1 | refine below_set ?_ GE181.out) | exact HB.out)))); have n2_ := Aside0.mk (blk_below (g := gb181) (o := .cells #[.int .i64 a1_0, .int .i64 a1_1] 36 (0, 0)) (by (with_reducible repeat (first | refine blk_drewN ?_ _ | refine blk_drew ?_ | refine blk_alloc ?_ _)); exact BK181.out) hb); have n3_ := Aside0.mk (below_step (by repeat (first | (with_reducible first | exact HB.out | apply below_alloc | apply pw_below_drewN | apply below_drew1 | refine below_set ?_ GE181.out) | exact HB.out)) hb); clear HO186; clear BK181; clear HB; have HO186 := n0_; have HO190 := n1_; have BK181 := n2_; have HB := n3_; clear n0_ n1_ n2_ n3_; (try clear hb); (try clear hb2); (try clear hk); (try clear hi); (try clear ho0)) | ((with_reducible refine gate_callee (f := 21) rfl ?_); refine goesL_ (some 42) rfl rfl Try.func21 (by kernel_rfl) rfl #[.slice A2 l2.length c2] rfl (by (try simp only [List.map_toArray, List.map_cons, List.map_nil]); first | done | rfl | (simp only [List.length_drop, List.length_take]; rfl)) ?_; (with_reducible refine (voice_Unframe.calls _ _ l2 t191 t192 _ ?side1 ?side2 A10.out).mono ?_); (case side1 => repeat (first | exact (Kd.C_below HR2.out HB.out) | (with_reducible refine Kd.C_alloc ?_ _) | (with_reducible refine Kd.C_drewN ?_ _) | (with_reducible refine Kd.C_drew ?_))); (case side2 => exact HC2.out); rintro e w23 ⟨v193, rfl, ho0, hb⟩; refine ⟨_, rfl, ?_⟩; have n0_ := Aside0.mk (Kd.R_below (by (with_reducible repeat (first | apply Kd.R_alloc | apply Kd.R_drewN | apply Kd.R_drew)); exact HO186.out) hb); have n1_ := Aside0.mk (Kd.R_below (by (with_reducible repeat (first | apply Kd.R_alloc | apply Kd.R_drewN | apply Kd.R_drew)); exact HO190.out) hb); have n2_ := Aside0.mk (Kd.R_lower ho0 (below_size (by repeat (first | (with_reducible first | exact HB.out | apply below_alloc | apply pw_below_drewN | apply below_drew1 | refine below_set ?_ GE181.out) | exact HB.out)))); have n3_ := Aside0.mk (blk_below (g := gb181) (o := .cells #[.int .i64 a1_0, .int .i64 a1_1] 36 (0, 0)) (by (with_reducible repeat (first | refine blk_drewN ?_ _ | refine blk_drew ?_ | refine blk_alloc ?_ _)); exact BK181.out) hb); have n4_ := Aside0.mk (below_step (by repeat (first | (with_reducible first | exact HB.out | apply below_alloc | apply pw_below_drewN | apply below_drew1 | refine below_set ?_ GE181.out) | exact HB.out)) hb); clear HO186; clear HO190; clear BK181; clear HB; have HO186 := n0_; have HO190 := n1_; have HO194 := n2_; have BK181 := n3_; have HB := n4_; clear n0_ n1_ n2_ n3_ n4_; (try clear hb); (try clear hb2); (try clear hk); (try clear hi); (try clear ho0)) | ((with_reducible refine gate_callee (f := 22) rfl ?_); refine goesL_ (some 47) rfl rfl Try.func22 (by kernel_rfl) rfl #[.slice A2 l2.length c2] rfl (by (try simp only [List.map_toArray, List.map_cons, List.map_nil]); first | done | rfl | (simp only [List.length_drop, List.length_take]; rfl)) ?_; (with_reducible refine (wireglassref25_Unframe.calls _ _ l2 t195 t196 _ ?side1 ?side2 A11.out).mono ?_); (case side1 => repeat (first | exact (Kd.C_below HR2.out HB.out) | (with_reducible refine Kd.C_alloc ?_ _) | (with_reducible refine Kd.C_drewN ?_ _) | (with_reducible refine Kd.C_drew ?_))); (case side2 => exact HC2.out); rintro e w24 ⟨v197, rfl, ho0, hb⟩; refine ⟨_, rfl, ?_⟩; have n0_ := Aside0.mk (Kd.R_below (by (with_reducible repeat (first | apply Kd.R_alloc | apply Kd.R_drewN | apply Kd.R_drew)); exact HO186.out) hb); have n1_ := Aside0.mk (Kd.R_below (by (with_reducible repeat (first | apply Kd.R_alloc | apply Kd.R_drewN | apply Kd.R_drew)); exact HO190.out) hb); have n2_ := Aside0.mk (Kd.R_elder' (by (with_reducible repeat (first | apply Kd.R_alloc | apply Kd.R_drewN | apply Kd.R_drew)); exact HO194.out) (Kd.R_base ho0) hb); have n3_ := Aside0.mk (Kd.R_lower (Kd.R_new' ho0 (Kd.R_lt (by (with_reducible repeat (first | apply Kd.R_alloc | apply Kd.R_drewN | apply Kd.R_drew)); exact HO194.out))) (below_size (by repeat (first | (with_reducible first | exact HB.out | apply below_alloc | apply pw_below_drewN | apply below_drew1 | refine below_set ?_ GE181.out) | exact HB.out)))); have n4_ := Aside0.mk (blk_below (g := gb181) (o := .cells #[.int .i64 a1_0, .int .i64 a1_1] 36 (0, 0)) (by (with_reducible repeat (first | refine blk_drewN ?_ _ | refine blk_drew ?_ | refine blk_alloc ?_ _)); exact BK181.out) hb); have n5_ := Aside0.mk (below_step (by repeat (first | (with_reducible first | exact HB.out | apply below_alloc | apply pw_below_drewN | apply below_drew1 | refine below_set ?_ GE181.out) | exact HB.out)) hb); clear HO186; clear HO190; clear HO194; clear BK181; clear HB; have HO186 := n0_; have HO190 := n1_; have HO194 := n2_; have HO198 := n3_; have BK181 := n4_; have HB := n5_; clear n0_ n1_ n2_ n3_ n4_ n5_; (try clear hb); (try clear hb2); (try clear hk); (try clear hi); (try clear ho0); have hcv25 := own_string (P := Try.prog) Try.underlying37 Try.underlying5 Try.underlying9 (Kd.own_of_R HO186.out); have hcv26 := own_string (P := Try.prog) Try.underlying37 Try.underlying5 Try.underlying9 (Kd.own_of_R HO190.out); obtain ⟨Ao27, co27, eo27⟩ := Kd.R_slice HO194.out; subst eo27; obtain ⟨Ao28, co28, eo28⟩ := Kd.R_slice HO198.out; subst eo28) | (go_at_call 16; (with_reducible refine (wireglassref02_SameInts.calls k _ _ t191 _ _ t195 true _ ?side1 ?side2 ?side3 ?side4 A14.out).mono ?_); (case side1 => repeat (first | exact (Kd.R_reads' HO194.out).2.2 | (with_reducible refine Kd.C_alloc ?_ _) | (with_reducible refine Kd.C_drewN ?_ _) | (with_reducible refine Kd.C_drew ?_))); (case side2 => exact (Kd.R_reads' HO194.out).2.1); (case side3 => repeat (first | exact (Kd.R_reads' HO198.out).2.2 | (with_reducible refine Kd.C_alloc ?_ _) | (with_reducible refine Kd.C_drewN ?_ _) | (with_reducible refine Kd.C_drew ?_))); (case side4 => exact (Kd.R_reads' HO198.out).2.1); rintro e w' ⟨rfl, ⟨nd, rfl⟩⟩) | (go_at_call 7; (with_reducible refine (wireglasslaw25_known.calls k  t200 _ A17.out).mono ?_); rintro e w29 ⟨rfl, hb⟩; have n0_ := Aside0.mk (Kd.R_below (by (with_reducible repeat (first | apply Kd.R_alloc | apply Kd.R_drewN | apply Kd.R_drew)); exact HO186.out) hb); have n1_ := Aside0.mk (Kd.R_below (by (with_reducible repeat (first | apply Kd.R_alloc | apply Kd.R_drewN | apply Kd.R_drew)); exact HO190.out) hb); have n2_ := Aside0.mk (Kd.R_below (by (with_reducible repeat (first | apply Kd.R_alloc | apply Kd.R_drewN | apply Kd.R_drew)); exact HO194.out) hb); have n3_ := Aside0.mk (Kd.R_below (by (with_reducible repeat (first | apply Kd.R_alloc | apply Kd.R_drewN | apply Kd.R_drew)); exact HO198.out) hb); have n4_ := Aside0.mk (blk_below (g := gb181) (o := .cells #[.int .i64 a1_0, .int .i64 a1_1] 36 (0, 0)) (by (with_reducible repeat (first | refine blk_drewN ?_ _ | refine blk_drew ?_ | refine blk_alloc ?_ _)); exact BK181.out) hb); have n5_ := Aside0.mk (below_step (by repeat (first | (with_reducible first | exact HB.out | apply below_alloc | apply pw_below_drewN | apply below_drew1 | refine below_set ?_ GE181.out) | exact HB.out)) hb); clear HO186; clear HO190; clear HO194; clear HO198; clear BK181; clear HB; have HO186 := n0_; have HO190 := n1_; have HO194 := n2_; have HO198 := n3_; have BK181 := n4_; have HB := n5_; clear n0_ n1_ n2_ n3_ n4_ n5_; (try clear hb); (try clear hb2); (try clear hk); (try clear hi)))
            go_ret
            exact ⟨by first | rfl | (simp [errW_none, errW_some] <;> rfl) | (simp [*, errW_none, errW_some] <;> rfl), by repeat (first | (with_reducible first | exact HB.out | apply below_alloc | apply pw_below_drewN | apply below_drew1 | refine below_set ?_ GE181.out) | exact HB.out)⟩
          · rw [if_neg c16] at H
            have c16b0 : (t192 == t196) = false := beq_eq_false_iff_ne.mpr c16
            have c16b1 : (t192 != t196) = true := bne_iff_ne.mpr c16
            obtain rfl := Option.some.inj H
            go_enter Try.func4, Try.ntmps4
            go_wp2_with (first | ((with_reducible refine gate_dst (N := 4) rfl ?_); refine box_event ?hg (N := 4) ?hd (cs := #[.int .i64 a1_0, .int .i64 a1_1]) (t := 36) ?hr ?_; (case hd => rfl); (case hg => rfl); (case hr => first | (go_simp; done) | (go_simp; rfl)); intro gb181 hg w30 hbox hb; have n0_ := Aside0.mk (below_step (by repeat (first | (with_reducible first | exact HB.out | apply below_alloc | apply pw_below_drewN | apply below_drew1) | exact HB.out)) hb); have n1_ := Aside0.mk (hbox); have n2_ := Aside0.mk ((by rw [hg]; exact (below_size (by repeat (first | (with_reducible first | exact HB.out | apply below_alloc | apply pw_below_drewN | apply below_drew1) | exact HB.out))) : w.heap.size ≤ gb181)); have n3_ := Aside0.mk ((by rw [hg]; exact (below_size (by repeat (first | (with_reducible first | exact HB.out | apply below_alloc | apply pw_below_drewN | apply below_drew1) | exact HB.out))) : w.heap.size ≤ gb181)); clear HB; have HB := n0_; have BK181 := n1_; have GW181 := n2_; have GE181 := n3_; clear n0_ n1_ n2_ n3_; clear hb hbox hg; have hcz31_0 : w30.cell? ⟨gb181, 0, none⟩ = some (.int .i64 a1_0) := (blk_cell BK181.out 0).trans rfl; have hcz31_1 : w30.cell? ⟨gb181, 1, none⟩ = some (.int .i64 a1_1) := (blk_cell BK181.out 1).trans rfl; have hfz31_0 := blk_frozen BK181.out 0; have hfz31_1 := blk_frozen BK181.out 1) | ((with_reducible refine gate_callee (f := 19) rfl ?_); refine goesL_ (some 28) rfl rfl Try.func19 (by kernel_rfl) rfl #[.slice A0 l0.length c0, .int .i64 a1_0, .int .i64 a1_1] rfl (by (try simp only [List.map_toArray, List.map_cons, List.map_nil]); first | done | rfl | (simp only [List.length_drop, List.length_take]; rfl)) ?_; (with_reducible refine (voice_Frame.calls k _ _ l0 a1_0 a1_1 t183 t184 _ ?side1 ?side2 A8.out).mono ?_); (case side1 => repeat (first | exact (Kd.C_below HR0.out HB.out) | (with_reducible refine Kd.C_alloc ?_ _) | (with_reducible refine Kd.C_drewN ?_ _) | (with_reducible refine Kd.C_drew ?_))); (case side2 => exact HC0.out); rintro e w32 ⟨v185, rfl, ho0, hb⟩; refine ⟨_, rfl, ?_⟩; have n0_ := Aside0.mk (Kd.R_lower ho0 (below_size (by repeat (first | (with_reducible first | exact HB.out | apply below_alloc | apply pw_below_drewN | apply below_drew1 | refine below_set ?_ GE181.out) | exact HB.out)))); have n1_ := Aside0.mk (blk_below (g := gb181) (o := .cells #[.int .i64 a1_0, .int .i64 a1_1] 36 (0, 0)) (by (with_reducible repeat (first | refine blk_drewN ?_ _ | refine blk_drew ?_ | refine blk_alloc ?_ _)); exact BK181.out) hb); have n2_ := Aside0.mk (below_step (by repeat (first | (with_reducible first | exact HB.out | apply below_alloc | apply pw_below_drewN | apply below_drew1 | refine below_set ?_ GE181.out) | exact HB.out)) hb); clear BK181; clear HB; have HO186 := n0_; have BK181 := n1_; have HB := n2_; clear n0_ n1_ n2_; (try clear hb); (try clear hb2); (try clear hk); (try clear hi); (try clear ho0); have hcz33_0 : w32.cell? ⟨gb181, 0, none⟩ = some (.int .i64 a1_0) := (blk_cell BK181.out 0).trans rfl; have hcz33_1 : w32.cell? ⟨gb181, 1, none⟩ = some (.int .i64 a1_1) := (blk_cell BK181.out 1).trans rfl; have hfz33_0 := blk_frozen BK181.out 0; have hfz33_1 := blk_frozen BK181.out 1) | ((with_reducible refine gate_callee (f := 20) rfl ?_); refine goesL_ (some 37) rfl rfl Try.func20 (by kernel_rfl) rfl #[.slice A0 l0.length c0, .int .i64 a1_0, .int .i64 a1_1] rfl (by (try simp only [List.map_toArray, List.map_cons, List.map_nil]); first | done | rfl | (simp only [List.length_drop, List.length_take]; rfl)) ?_; (with_reducible refine (wireglassref25_Frame.calls k _ _ l0 a1_0 a1_1 t187 t188 _ ?side1 ?side2 A9.out).mono ?_); (case side1 => repeat (first | exact (Kd.C_below HR0.out HB.out) | (with_reducible refine Kd.C_alloc ?_ _) | (with_reducible refine Kd.C_drewN ?_ _) | (with_reducible refine Kd.C_drew ?_))); (case side2 => exact HC0.out); rintro e w34 ⟨v189, rfl, ho0, hb⟩; refine ⟨_, rfl, ?_⟩; have n0_ := Aside0.mk (Kd.R_elder' (by (with_reducible repeat (first | apply Kd.R_alloc | apply Kd.R_drewN | apply Kd.R_drew)); exact HO186.out) (Kd.R_base ho0) hb); have n1_ := Aside0.mk (Kd.R_lower (Kd.R_new' ho0 (Kd.R_lt (by (with_reducible repeat (first | apply Kd.R_alloc | apply Kd.R_drewN | apply Kd.R_drew)); exact HO186.out))) (below_size (by repeat (first | (with_reducible first | exact HB.out | apply below_alloc | apply pw_below_drewN | apply below_drew1 | refine below_set ?_ GE181.out) | exact HB.out)))); have n2_ := Aside0.mk (blk_below (g := gb181) (o := .cells #[.int .i64 a1_0, .int .i64 a1_1] 36 (0, 0)) (by (with_reducible repeat (first | refine blk_drewN ?_ _ | refine blk_drew ?_ | refine blk_alloc ?_ _)); exact BK181.out) hb); have n3_ := Aside0.mk (below_step (by repeat (first | (with_reducible first | exact HB.out | apply below_alloc | apply pw_below_drewN | apply below_drew1 | refine below_set ?_ GE181.out) | exact HB.out)) hb); clear HO186; clear BK181; clear HB; have HO186 := n0_; have HO190 := n1_; have BK181 := n2_; have HB := n3_; clear n0_ n1_ n2_ n3_; (try clear hb); (try clear hb2); (try clear hk); (try clear hi); (try clear ho0)) | ((with_reducible refine gate_callee (f := 21) rfl ?_); refine goesL_ (some 42) rfl rfl Try.func21 (by kernel_rfl) rfl #[.slice A2 l2.length c2] rfl (by (try simp only [List.map_toArray, List.map_cons, List.map_nil]); first | done | rfl | (simp only [List.length_drop, List.length_take]; rfl)) ?_; (with_reducible refine (voice_Unframe.calls _ _ l2 t191 t192 _ ?side1 ?side2 A10.out).mono ?_); (case side1 => repeat (first | exact (Kd.C_below HR2.out HB.out) | (with_reducible refine Kd.C_alloc ?_ _) | (with_reducible refine Kd.C_drewN ?_ _) | (with_reducible refine Kd.C_drew ?_))); (case side2 => exact HC2.out); rintro e w35 ⟨v193, rfl, ho0, hb⟩; refine ⟨_, rfl, ?_⟩; have n0_ := Aside0.mk (Kd.R_below (by (with_reducible repeat (first | apply Kd.R_alloc | apply Kd.R_drewN | apply Kd.R_drew)); exact HO186.out) hb); have n1_ := Aside0.mk (Kd.R_below (by (with_reducible repeat (first | apply Kd.R_alloc | apply Kd.R_drewN | apply Kd.R_drew)); exact HO190.out) hb); have n2_ := Aside0.mk (Kd.R_lower ho0 (below_size (by repeat (first | (with_reducible first | exact HB.out | apply below_alloc | apply pw_below_drewN | apply below_drew1 | refine below_set ?_ GE181.out) | exact HB.out)))); have n3_ := Aside0.mk (blk_below (g := gb181) (o := .cells #[.int .i64 a1_0, .int .i64 a1_1] 36 (0, 0)) (by (with_reducible repeat (first | refine blk_drewN ?_ _ | refine blk_drew ?_ | refine blk_alloc ?_ _)); exact BK181.out) hb); have n4_ := Aside0.mk (below_step (by repeat (first | (with_reducible first | exact HB.out | apply below_alloc | apply pw_below_drewN | apply below_drew1 | refine below_set ?_ GE181.out) | exact HB.out)) hb); clear HO186; clear HO190; clear BK181; clear HB; have HO186 := n0_; have HO190 := n1_; have HO194 := n2_; have BK181 := n3_; have HB := n4_; clear n0_ n1_ n2_ n3_ n4_; (try clear hb); (try clear hb2); (try clear hk); (try clear hi); (try clear ho0)) | ((with_reducible refine gate_callee (f := 22) rfl ?_); refine goesL_ (some 47) rfl rfl Try.func22 (by kernel_rfl) rfl #[.slice A2 l2.length c2] rfl (by (try simp only [List.map_toArray, List.map_cons, List.map_nil]); first | done | rfl | (simp only [List.length_drop, List.length_take]; rfl)) ?_; (with_reducible refine (wireglassref25_Unframe.calls _ _ l2 t195 t196 _ ?side1 ?side2 A11.out).mono ?_); (case side1 => repeat (first | exact (Kd.C_below HR2.out HB.out) | (with_reducible refine Kd.C_alloc ?_ _) | (with_reducible refine Kd.C_drewN ?_ _) | (with_reducible refine Kd.C_drew ?_))); (case side2 => exact HC2.out); rintro e w36 ⟨v197, rfl, ho0, hb⟩; refine ⟨_, rfl, ?_⟩; have n0_ := Aside0.mk (Kd.R_below (by (with_reducible repeat (first | apply Kd.R_alloc | apply Kd.R_drewN | apply Kd.R_drew)); exact HO186.out) hb); have n1_ := Aside0.mk (Kd.R_below (by (with_reducible repeat (first | apply Kd.R_alloc | apply Kd.R_drewN | apply Kd.R_drew)); exact HO190.out) hb); have n2_ := Aside0.mk (Kd.R_elder' (by (with_reducible repeat (first | apply Kd.R_alloc | apply Kd.R_drewN | apply Kd.R_drew)); exact HO194.out) (Kd.R_base ho0) hb); have n3_ := Aside0.mk (Kd.R_lower (Kd.R_new' ho0 (Kd.R_lt (by (with_reducible repeat (first | apply Kd.R_alloc | apply Kd.R_drewN | apply Kd.R_drew)); exact HO194.out))) (below_size (by repeat (first | (with_reducible first | exact HB.out | apply below_alloc | apply pw_below_drewN | apply below_drew1 | refine below_set ?_ GE181.out) | exact HB.out)))); have n4_ := Aside0.mk (blk_below (g := gb181) (o := .cells #[.int .i64 a1_0, .int .i64 a1_1] 36 (0, 0)) (by (with_reducible repeat (first | refine blk_drewN ?_ _ | refine blk_drew ?_ | refine blk_alloc ?_ _)); exact BK181.out) hb); have n5_ := Aside0.mk (below_step (by repeat (first | (with_reducible first | exact HB.out | apply below_alloc | apply pw_below_drewN | apply below_drew1 | refine below_set ?_ GE181.out) | exact HB.out)) hb); clear HO186; clear HO190; clear HO194; clear BK181; clear HB; have HO186 := n0_; have HO190 := n1_; have HO194 := n2_; have HO198 := n3_; have BK181 := n4_; have HB := n5_; clear n0_ n1_ n2_ n3_ n4_ n5_; (try clear hb); (try clear hb2); (try clear hk); (try clear hi); (try clear ho0); have hcv37 := own_string (P := Try.prog) Try.underlying37 Try.underlying5 Try.underlying9 (Kd.own_of_R HO186.out); have hcv38 := own_string (P := Try.prog) Try.underlying37 Try.underlying5 Try.underlying9 (Kd.own_of_R HO190.out); obtain ⟨Ao39, co39, eo39⟩ := Kd.R_slice HO194.out; subst eo39; obtain ⟨Ao40, co40, eo40⟩ := Kd.R_slice HO198.out; subst eo40) | (go_at_call 16; (with_reducible refine (wireglassref02_SameInts.calls k _ _ t191 _ _ t195 true _ ?side1 ?side2 ?side3 ?side4 A14.out).mono ?_); (case side1 => repeat (first | exact (Kd.R_reads' HO194.out).2.2 | (with_reducible refine Kd.C_alloc ?_ _) | (with_reducible refine Kd.C_drewN ?_ _) | (with_reducible refine Kd.C_drew ?_))); (case side2 => exact (Kd.R_reads' HO194.out).2.1); (case side3 => repeat (first | exact (Kd.R_reads' HO198.out).2.2 | (with_reducible refine Kd.C_alloc ?_ _) | (with_reducible refine Kd.C_drewN ?_ _) | (with_reducible refine Kd.C_drew ?_))); (case side4 => exact (Kd.R_reads' HO198.out).2.1); rintro e w' ⟨rfl, ⟨nd, rfl⟩⟩))
            go_ret
            exact ⟨by first | rfl | (simp [errW_none, errW_some] <;> rfl) | (simp [*, errW_none, errW_some] <;> rfl), by repeat (first | (with_reducible first | exact HB.out | apply below_alloc | apply pw_below_drewN | apply below_drew1 | refine below_set ?_ GE181.out) | exact HB.out)⟩
        · replace c15 := Bool.eq_false_iff.mpr c15
          subst c15
          have H1 : (some false) = some r := by rw [if_neg (show ¬ (false = true) by decide)] at H; exact H
          clear H
          have H := H1
          clear H1
          obtain rfl := Option.some.inj H
          go_enter Try.func4, Try.ntmps4
          go_wp2_with (first | ((with_reducible refine gate_dst (N := 4) rfl ?_); refine box_event ?hg (N := 4) ?hd (cs := #[.int .i64 a1_0, .int .i64 a1_1]) (t := 36) ?hr ?_; (case hd => rfl); (case hg => rfl); (case hr => first | (go_simp; done) | (go_simp; rfl)); intro gb181 hg w41 hbox hb; have n0_ := Aside0.mk (below_step (by repeat (first | (with_reducible first | exact HB.out | apply below_alloc | apply pw_below_drewN | apply below_drew1) | exact HB.out)) hb); have n1_ := Aside0.mk (hbox); have n2_ := Aside0.mk ((by rw [hg]; exact (below_size (by repeat (first | (with_reducible first | exact HB.out | apply below_alloc | apply pw_below_drewN | apply below_drew1) | exact HB.out))) : w.heap.size ≤ gb181)); have n3_ := Aside0.mk ((by rw [hg]; exact (below_size (by repeat (first | (with_reducible first | exact HB.out | apply below_alloc | apply pw_below_drewN | apply below_drew1) | exact HB.out))) : w.heap.size ≤ gb181)); clear HB; have HB := n0_; have BK181 := n1_; have GW181 := n2_; have GE181 := n3_; clear n0_ n1_ n2_ n3_; clear hb hbox hg; have hcz42_0 : w41.cell? ⟨gb181, 0, none⟩ = some (.int .i64 a1_0) := (blk_cell BK181.out 0).trans rfl; have hcz42_1 : w41.cell? ⟨gb181, 1, none⟩ = some (.int .i64 a1_1) := (blk_cell BK181.out 1).trans rfl; have hfz42_0 := blk_frozen BK181.out 0; have hfz42_1 := blk_frozen BK181.out 1) | ((with_reducible refine gate_callee (f := 19) rfl ?_); refine goesL_ (some 28) rfl rfl Try.func19 (by kernel_rfl) rfl #[.slice A0 l0.length c0, .int .i64 a1_0, .int .i64 a1_1] rfl (by (try simp only [List.map_toArray, List.map_cons, List.map_nil]); first | done | rfl | (simp only [List.length_drop, List.length_take]; rfl)) ?_; (with_reducible refine (voice_Frame.calls k _ _ l0 a1_0 a1_1 t183 t184 _ ?side1 ?side2 A8.out).mono ?_); (case side1 => repeat (first | exact (Kd.C_below HR0.out HB.out) | (with_reducible refine Kd.C_alloc ?_ _) | (with_reducible refine Kd.C_drewN ?_ _) | (with_reducible refine Kd.C_drew ?_))); (case side2 => exact HC0.out); rintro e w43 ⟨v185, rfl, ho0, hb⟩; refine ⟨_, rfl, ?_⟩; have n0_ := Aside0.mk (Kd.R_lower ho0 (below_size (by repeat (first | (with_reducible first | exact HB.out | apply below_alloc | apply pw_below_drewN | apply below_drew1 | refine below_set ?_ GE181.out) | exact HB.out)))); have n1_ := Aside0.mk (blk_below (g := gb181) (o := .cells #[.int .i64 a1_0, .int .i64 a1_1] 36 (0, 0)) (by (with_reducible repeat (first | refine blk_drewN ?_ _ | refine blk_drew ?_ | refine blk_alloc ?_ _)); exact BK181.out) hb); have n2_ := Aside0.mk (below_step (by repeat (first | (with_reducible first | exact HB.out | apply below_alloc | apply pw_below_drewN | apply below_drew1 | refine below_set ?_ GE181.out) | exact HB.out)) hb); clear BK181; clear HB; have HO186 := n0_; have BK181 := n1_; have HB := n2_; clear n0_ n1_ n2_; (try clear hb); (try clear hb2); (try clear hk); (try clear hi); (try clear ho0); have hcz44_0 : w43.cell? ⟨gb181, 0, none⟩ = some (.int .i64 a1_0) := (blk_cell BK181.out 0).trans rfl; have hcz44_1 : w43.cell? ⟨gb181, 1, none⟩ = some (.int .i64 a1_1) := (blk_cell BK181.out 1).trans rfl; have hfz44_0 := blk_frozen BK181.out 0; have hfz44_1 := blk_frozen BK181.out 1) | ((with_reducible refine gate_callee (f := 20) rfl ?_); refine goesL_ (some 37) rfl rfl Try.func20 (by kernel_rfl) rfl #[.slice A0 l0.length c0, .int .i64 a1_0, .int .i64 a1_1] rfl (by (try simp only [List.map_toArray, List.map_cons, List.map_nil]); first | done | rfl | (simp only [List.length_drop, List.length_take]; rfl)) ?_; (with_reducible refine (wireglassref25_Frame.calls k _ _ l0 a1_0 a1_1 t187 t188 _ ?side1 ?side2 A9.out).mono ?_); (case side1 => repeat (first | exact (Kd.C_below HR0.out HB.out) | (with_reducible refine Kd.C_alloc ?_ _) | (with_reducible refine Kd.C_drewN ?_ _) | (with_reducible refine Kd.C_drew ?_))); (case side2 => exact HC0.out); rintro e w45 ⟨v189, rfl, ho0, hb⟩; refine ⟨_, rfl, ?_⟩; have n0_ := Aside0.mk (Kd.R_elder' (by (with_reducible repeat (first | apply Kd.R_alloc | apply Kd.R_drewN | apply Kd.R_drew)); exact HO186.out) (Kd.R_base ho0) hb); have n1_ := Aside0.mk (Kd.R_lower (Kd.R_new' ho0 (Kd.R_lt (by (with_reducible repeat (first | apply Kd.R_alloc | apply Kd.R_drewN | apply Kd.R_drew)); exact HO186.out))) (below_size (by repeat (first | (with_reducible first | exact HB.out | apply below_alloc | apply pw_below_drewN | apply below_drew1 | refine below_set ?_ GE181.out) | exact HB.out)))); have n2_ := Aside0.mk (blk_below (g := gb181) (o := .cells #[.int .i64 a1_0, .int .i64 a1_1] 36 (0, 0)) (by (with_reducible repeat (first | refine blk_drewN ?_ _ | refine blk_drew ?_ | refine blk_alloc ?_ _)); exact BK181.out) hb); have n3_ := Aside0.mk (below_step (by repeat (first | (with_reducible first | exact HB.out | apply below_alloc | apply pw_below_drewN | apply below_drew1 | refine below_set ?_ GE181.out) | exact HB.out)) hb); clear HO186; clear BK181; clear HB; have HO186 := n0_; have HO190 := n1_; have BK181 := n2_; have HB := n3_; clear n0_ n1_ n2_ n3_; (try clear hb); (try clear hb2); (try clear hk); (try clear hi); (try clear ho0)) | ((with_reducible refine gate_callee (f := 21) rfl ?_); refine goesL_ (some 42) rfl rfl Try.func21 (by kernel_rfl) rfl #[.slice A2 l2.length c2] rfl (by (try simp only [List.map_toArray, List.map_cons, List.map_nil]); first | done | rfl | (simp only [List.length_drop, List.length_take]; rfl)) ?_; (with_reducible refine (voice_Unframe.calls _ _ l2 t191 t192 _ ?side1 ?side2 A10.out).mono ?_); (case side1 => repeat (first | exact (Kd.C_below HR2.out HB.out) | (with_reducible refine Kd.C_alloc ?_ _) | (with_reducible refine Kd.C_drewN ?_ _) | (with_reducible refine Kd.C_drew ?_))); (case side2 => exact HC2.out); rintro e w46 ⟨v193, rfl, ho0, hb⟩; refine ⟨_, rfl, ?_⟩; have n0_ := Aside0.mk (Kd.R_below (by (with_reducible repeat (first | apply Kd.R_alloc | apply Kd.R_drewN | apply Kd.R_drew)); exact HO186.out) hb); have n1_ := Aside0.mk (Kd.R_below (by (with_reducible repeat (first | apply Kd.R_alloc | apply Kd.R_drewN | apply Kd.R_drew)); exact HO190.out) hb); have n2_ := Aside0.mk (Kd.R_lower ho0 (below_size (by repeat (first | (with_reducible first | exact HB.out | apply below_alloc | apply pw_below_drewN | apply below_drew1 | refine below_set ?_ GE181.out) | exact HB.out)))); have n3_ := Aside0.mk (blk_below (g := gb181) (o := .cells #[.int .i64 a1_0, .int .i64 a1_1] 36 (0, 0)) (by (with_reducible repeat (first | refine blk_drewN ?_ _ | refine blk_drew ?_ | refine blk_alloc ?_ _)); exact BK181.out) hb); have n4_ := Aside0.mk (below_step (by repeat (first | (with_reducible first | exact HB.out | apply below_alloc | apply pw_below_drewN | apply below_drew1 | refine below_set ?_ GE181.out) | exact HB.out)) hb); clear HO186; clear HO190; clear BK181; clear HB; have HO186 := n0_; have HO190 := n1_; have HO194 := n2_; have BK181 := n3_; have HB := n4_; clear n0_ n1_ n2_ n3_ n4_; (try clear hb); (try clear hb2); (try clear hk); (try clear hi); (try clear ho0)) | ((with_reducible refine gate_callee (f := 22) rfl ?_); refine goesL_ (some 47) rfl rfl Try.func22 (by kernel_rfl) rfl #[.slice A2 l2.length c2] rfl (by (try simp only [List.map_toArray, List.map_cons, List.map_nil]); first | done | rfl | (simp only [List.length_drop, List.length_take]; rfl)) ?_; (with_reducible refine (wireglassref25_Unframe.calls _ _ l2 t195 t196 _ ?side1 ?side2 A11.out).mono ?_); (case side1 => repeat (first | exact (Kd.C_below HR2.out HB.out) | (with_reducible refine Kd.C_alloc ?_ _) | (with_reducible refine Kd.C_drewN ?_ _) | (with_reducible refine Kd.C_drew ?_))); (case side2 => exact HC2.out); rintro e w47 ⟨v197, rfl, ho0, hb⟩; refine ⟨_, rfl, ?_⟩; have n0_ := Aside0.mk (Kd.R_below (by (with_reducible repeat (first | apply Kd.R_alloc | apply Kd.R_drewN | apply Kd.R_drew)); exact HO186.out) hb); have n1_ := Aside0.mk (Kd.R_below (by (with_reducible repeat (first | apply Kd.R_alloc | apply Kd.R_drewN | apply Kd.R_drew)); exact HO190.out) hb); have n2_ := Aside0.mk (Kd.R_elder' (by (with_reducible repeat (first | apply Kd.R_alloc | apply Kd.R_drewN | apply Kd.R_drew)); exact HO194.out) (Kd.R_base ho0) hb); have n3_ := Aside0.mk (Kd.R_lower (Kd.R_new' ho0 (Kd.R_lt (by (with_reducible repeat (first | apply Kd.R_alloc | apply Kd.R_drewN | apply Kd.R_drew)); exact HO194.out))) (below_size (by repeat (first | (with_reducible first | exact HB.out | apply below_alloc | apply pw_below_drewN | apply below_drew1 | refine below_set ?_ GE181.out) | exact HB.out)))); have n4_ := Aside0.mk (blk_below (g := gb181) (o := .cells #[.int .i64 a1_0, .int .i64 a1_1] 36 (0, 0)) (by (with_reducible repeat (first | refine blk_drewN ?_ _ | refine blk_drew ?_ | refine blk_alloc ?_ _)); exact BK181.out) hb); have n5_ := Aside0.mk (below_step (by repeat (first | (with_reducible first | exact HB.out | apply below_alloc | apply pw_below_drewN | apply below_drew1 | refine below_set ?_ GE181.out) | exact HB.out)) hb); clear HO186; clear HO190; clear HO194; clear BK181; clear HB; have HO186 := n0_; have HO190 := n1_; have HO194 := n2_; have HO198 := n3_; have BK181 := n4_; have HB := n5_; clear n0_ n1_ n2_ n3_ n4_ n5_; (try clear hb); (try clear hb2); (try clear hk); (try clear hi); (try clear ho0); have hcv48 := own_string (P := Try.prog) Try.underlying37 Try.underlying5 Try.underlying9 (Kd.own_of_R HO186.out); have hcv49 := own_string (P := Try.prog) Try.underlying37 Try.underlying5 Try.underlying9 (Kd.own_of_R HO190.out); obtain ⟨Ao50, co50, eo50⟩ := Kd.R_slice HO194.out; subst eo50; obtain ⟨Ao51, co51, eo51⟩ := Kd.R_slice HO198.out; subst eo51) | (go_at_call 16; (with_reducible refine (wireglassref02_SameInts.calls k _ _ t191 _ _ t195 false _ ?side1 ?side2 ?side3 ?side4 A14.out).mono ?_); (case side1 => repeat (first | exact (Kd.R_reads' HO194.out).2.2 | (with_reducible refine Kd.C_alloc ?_ _) | (with_reducible refine Kd.C_drewN ?_ _) | (with_reducible refine Kd.C_drew ?_))); (case side2 => exact (Kd.R_reads' HO194.out).2.1); (case side3 => repeat (first | exact (Kd.R_reads' HO198.out).2.2 | (with_reducible refine Kd.C_alloc ?_ _) | (with_reducible refine Kd.C_drewN ?_ _) | (with_reducible refine Kd.C_drew ?_))); (case side4 => exact (Kd.R_reads' HO198.out).2.1); rintro e w' ⟨rfl, ⟨nd, rfl⟩⟩))
          go_ret
          exact ⟨by first | rfl | (simp [errW_none, errW_some] <;> rfl) | (simp [*, errW_none, errW_some] <;> rfl), by repeat (first | (with_reducible first | exact HB.out | apply below_alloc | apply pw_below_drewN | apply below_drew1 | refine below_set ?_ GE181.out) | exact HB.out)⟩
      · rw [if_neg c13] at H
        have c13b0 : (t184 == t188) = false := beq_eq_false_iff_ne.mpr c13
        have c13b1 : (t184 != t188) = true := bne_iff_ne.mpr c13
        obtain rfl := Option.some.inj H
        go_enter Try.func4, Try.ntmps4
        go_wp2_with (first | ((with_reducible refine gate_dst (N := 4) rfl ?_); refine box_event ?hg (N := 4) ?hd (cs := #[.int .i64 a1_0, .int .i64 a1_1]) (t := 36) ?hr ?_; (case hd => rfl); (case hg => rfl); (case hr => first | (go_simp; done) | (go_simp; rfl)); intro gb181 hg w52 hbox hb; have n0_ := Aside0.mk (below_step (by repeat (first | (with_reducible first | exact HB.out | apply below_alloc | apply pw_below_drewN | apply below_drew1) | exact HB.out)) hb); have n1_ := Aside0.mk (hbox); have n2_ := Aside0.mk ((by rw [hg]; exact (below_size (by repeat (first | (with_reducible first | exact HB.out | apply below_alloc | apply pw_below_drewN | apply below_drew1) | exact HB.out))) : w.heap.size ≤ gb181)); have n3_ := Aside0.mk ((by rw [hg]; exact (below_size (by repeat (first | (with_reducible first | exact HB.out | apply below_alloc | apply pw_below_drewN | apply below_drew1) | exact HB.out))) : w.heap.size ≤ gb181)); clear HB; have HB := n0_; have BK181 := n1_; have GW181 := n2_; have GE181 := n3_; clear n0_ n1_ n2_ n3_; clear hb hbox hg; have hcz53_0 : w52.cell? ⟨gb181, 0, none⟩ = some (.int .i64 a1_0) := (blk_cell BK181.out 0).trans rfl; have hcz53_1 : w52.cell? ⟨gb181, 1, none⟩ = some (.int .i64 a1_1) := (blk_cell BK181.out 1).trans rfl; have hfz53_0 := blk_frozen BK181.out 0; have hfz53_1 := blk_frozen BK181.out 1) | ((with_reducible refine gate_callee (f := 19) rfl ?_); refine goesL_ (some 28) rfl rfl Try.func19 (by kernel_rfl) rfl #[.slice A0 l0.length c0, .int .i64 a1_0, .int .i64 a1_1] rfl (by (try simp only [List.map_toArray, List.map_cons, List.map_nil]); first | done | rfl | (simp only [List.length_drop, List.length_take]; rfl)) ?_; (with_reducible refine (voice_Frame.calls k _ _ l0 a1_0 a1_1 t183 t184 _ ?side1 ?side2 A8.out).mono ?_); (case side1 => repeat (first | exact (Kd.C_below HR0.out HB.out) | (with_reducible refine Kd.C_alloc ?_ _) | (with_reducible refine Kd.C_drewN ?_ _) | (with_reducible refine Kd.C_drew ?_))); (case side2 => exact HC0.out); rintro e w54 ⟨v185, rfl, ho0, hb⟩; refine ⟨_, rfl, ?_⟩; have n0_ := Aside0.mk (Kd.R_lower ho0 (below_size (by repeat (first | (with_reducible first | exact HB.out | apply below_alloc | apply pw_below_drewN | apply below_drew1 | refine below_set ?_ GE181.out) | exact HB.out)))); have n1_ := Aside0.mk (blk_below (g := gb181) (o := .cells #[.int .i64 a1_0, .int .i64 a1_1] 36 (0, 0)) (by (with_reducible repeat (first | refine blk_drewN ?_ _ | refine blk_drew ?_ | refine blk_alloc ?_ _)); exact BK181.out) hb); have n2_ := Aside0.mk (below_step (by repeat (first | (with_reducible first | exact HB.out | apply below_alloc | apply pw_below_drewN | apply below_drew1 | refine below_set ?_ GE181.out) | exact HB.out)) hb); clear BK181; clear HB; have HO186 := n0_; have BK181 := n1_; have HB := n2_; clear n0_ n1_ n2_; (try clear hb); (try clear hb2); (try clear hk); (try clear hi); (try clear ho0); have hcz55_0 : w54.cell? ⟨gb181, 0, none⟩ = some (.int .i64 a1_0) := (blk_cell BK181.out 0).trans rfl; have hcz55_1 : w54.cell? ⟨gb181, 1, none⟩ = some (.int .i64 a1_1) := (blk_cell BK181.out 1).trans rfl; have hfz55_0 := blk_frozen BK181.out 0; have hfz55_1 := blk_frozen BK181.out 1) | ((with_reducible refine gate_callee (f := 20) rfl ?_); refine goesL_ (some 37) rfl rfl Try.func20 (by kernel_rfl) rfl #[.slice A0 l0.length c0, .int .i64 a1_0, .int .i64 a1_1] rfl (by (try simp only [List.map_toArray, List.map_cons, List.map_nil]); first | done | rfl | (simp only [List.length_drop, List.length_take]; rfl)) ?_; (with_reducible refine (wireglassref25_Frame.calls k _ _ l0 a1_0 a1_1 t187 t188 _ ?side1 ?side2 A9.out).mono ?_); (case side1 => repeat (first | exact (Kd.C_below HR0.out HB.out) | (with_reducible refine Kd.C_alloc ?_ _) | (with_reducible refine Kd.C_drewN ?_ _) | (with_reducible refine Kd.C_drew ?_))); (case side2 => exact HC0.out); rintro e w56 ⟨v189, rfl, ho0, hb⟩; refine ⟨_, rfl, ?_⟩; have n0_ := Aside0.mk (Kd.R_elder' (by (with_reducible repeat (first | apply Kd.R_alloc | apply Kd.R_drewN | apply Kd.R_drew)); exact HO186.out) (Kd.R_base ho0) hb); have n1_ := Aside0.mk (Kd.R_lower (Kd.R_new' ho0 (Kd.R_lt (by (with_reducible repeat (first | apply Kd.R_alloc | apply Kd.R_drewN | apply Kd.R_drew)); exact HO186.out))) (below_size (by repeat (first | (with_reducible first | exact HB.out | apply below_alloc | apply pw_below_drewN | apply below_drew1 | refine below_set ?_ GE181.out) | exact HB.out)))); have n2_ := Aside0.mk (blk_below (g := gb181) (o := .cells #[.int .i64 a1_0, .int .i64 a1_1] 36 (0, 0)) (by (with_reducible repeat (first | refine blk_drewN ?_ _ | refine blk_drew ?_ | refine blk_alloc ?_ _)); exact BK181.out) hb); have n3_ := Aside0.mk (below_step (by repeat (first | (with_reducible first | exact HB.out | apply below_alloc | apply pw_below_drewN | apply below_drew1 | refine below_set ?_ GE181.out) | exact HB.out)) hb); clear HO186; clear BK181; clear HB; have HO186 := n0_; have HO190 := n1_; have BK181 := n2_; have HB := n3_; clear n0_ n1_ n2_ n3_; (try clear hb); (try clear hb2); (try clear hk); (try clear hi); (try clear ho0)) | ((with_reducible refine gate_callee (f := 21) rfl ?_); refine goesL_ (some 42) rfl rfl Try.func21 (by kernel_rfl) rfl #[.slice A2 l2.length c2] rfl (by (try simp only [List.map_toArray, List.map_cons, List.map_nil]); first | done | rfl | (simp only [List.length_drop, List.length_take]; rfl)) ?_; (with_reducible refine (voice_Unframe.calls _ _ l2 t191 t192 _ ?side1 ?side2 A10.out).mono ?_); (case side1 => repeat (first | exact (Kd.C_below HR2.out HB.out) | (with_reducible refine Kd.C_alloc ?_ _) | (with_reducible refine Kd.C_drewN ?_ _) | (with_reducible refine Kd.C_drew ?_))); (case side2 => exact HC2.out); rintro e w57 ⟨v193, rfl, ho0, hb⟩; refine ⟨_, rfl, ?_⟩; have n0_ := Aside0.mk (Kd.R_below (by (with_reducible repeat (first | apply Kd.R_alloc | apply Kd.R_drewN | apply Kd.R_drew)); exact HO186.out) hb); have n1_ := Aside0.mk (Kd.R_below (by (with_reducible repeat (first | apply Kd.R_alloc | apply Kd.R_drewN | apply Kd.R_drew)); exact HO190.out) hb); have n2_ := Aside0.mk (Kd.R_lower ho0 (below_size (by repeat (first | (with_reducible first | exact HB.out | apply below_alloc | apply pw_below_drewN | apply below_drew1 | refine below_set ?_ GE181.out) | exact HB.out)))); have n3_ := Aside0.mk (blk_below (g := gb181) (o := .cells #[.int .i64 a1_0, .int .i64 a1_1] 36 (0, 0)) (by (with_reducible repeat (first | refine blk_drewN ?_ _ | refine blk_drew ?_ | refine blk_alloc ?_ _)); exact BK181.out) hb); have n4_ := Aside0.mk (below_step (by repeat (first | (with_reducible first | exact HB.out | apply below_alloc | apply pw_below_drewN | apply below_drew1 | refine below_set ?_ GE181.out) | exact HB.out)) hb); clear HO186; clear HO190; clear BK181; clear HB; have HO186 := n0_; have HO190 := n1_; have HO194 := n2_; have BK181 := n3_; have HB := n4_; clear n0_ n1_ n2_ n3_ n4_; (try clear hb); (try clear hb2); (try clear hk); (try clear hi); (try clear ho0)) | ((with_reducible refine gate_callee (f := 22) rfl ?_); refine goesL_ (some 47) rfl rfl Try.func22 (by kernel_rfl) rfl #[.slice A2 l2.length c2] rfl (by (try simp only [List.map_toArray, List.map_cons, List.map_nil]); first | done | rfl | (simp only [List.length_drop, List.length_take]; rfl)) ?_; (with_reducible refine (wireglassref25_Unframe.calls _ _ l2 t195 t196 _ ?side1 ?side2 A11.out).mono ?_); (case side1 => repeat (first | exact (Kd.C_below HR2.out HB.out) | (with_reducible refine Kd.C_alloc ?_ _) | (with_reducible refine Kd.C_drewN ?_ _) | (with_reducible refine Kd.C_drew ?_))); (case side2 => exact HC2.out); rintro e w58 ⟨v197, rfl, ho0, hb⟩; refine ⟨_, rfl, ?_⟩; have n0_ := Aside0.mk (Kd.R_below (by (with_reducible repeat (first | apply Kd.R_alloc | apply Kd.R_drewN | apply Kd.R_drew)); exact HO186.out) hb); have n1_ := Aside0.mk (Kd.R_below (by (with_reducible repeat (first | apply Kd.R_alloc | apply Kd.R_drewN | apply Kd.R_drew)); exact HO190.out) hb); have n2_ := Aside0.mk (Kd.R_elder' (by (with_reducible repeat (first | apply Kd.R_alloc | apply Kd.R_drewN | apply Kd.R_drew)); exact HO194.out) (Kd.R_base ho0) hb); have n3_ := Aside0.mk (Kd.R_lower (Kd.R_new' ho0 (Kd.R_lt (by (with_reducible repeat (first | apply Kd.R_alloc | apply Kd.R_drewN | apply Kd.R_drew)); exact HO194.out))) (below_size (by repeat (first | (with_reducible first | exact HB.out | apply below_alloc | apply pw_below_drewN | apply below_drew1 | refine below_set ?_ GE181.out) | exact HB.out)))); have n4_ := Aside0.mk (blk_below (g := gb181) (o := .cells #[.int .i64 a1_0, .int .i64 a1_1] 36 (0, 0)) (by (with_reducible repeat (first | refine blk_drewN ?_ _ | refine blk_drew ?_ | refine blk_alloc ?_ _)); exact BK181.out) hb); have n5_ := Aside0.mk (below_step (by repeat (first | (with_reducible first | exact HB.out | apply below_alloc | apply pw_below_drewN | apply below_drew1 | refine below_set ?_ GE181.out) | exact HB.out)) hb); clear HO186; clear HO190; clear HO194; clear BK181; clear HB; have HO186 := n0_; have HO190 := n1_; have HO194 := n2_; have HO198 := n3_; have BK181 := n4_; have HB := n5_; clear n0_ n1_ n2_ n3_ n4_ n5_; (try clear hb); (try clear hb2); (try clear hk); (try clear hi); (try clear ho0); have hcv59 := own_string (P := Try.prog) Try.underlying37 Try.underlying5 Try.underlying9 (Kd.own_of_R HO186.out); have hcv60 := own_string (P := Try.prog) Try.underlying37 Try.underlying5 Try.underlying9 (Kd.own_of_R HO190.out)))
        go_ret
        exact ⟨by first | rfl | (simp [errW_none, errW_some] <;> rfl) | (simp [*, errW_none, errW_some] <;> rfl), by repeat (first | (with_reducible first | exact HB.out | apply below_alloc | apply pw_below_drewN | apply below_drew1 | refine below_set ?_ GE181.out) | exact HB.out)⟩
    · rw [if_neg c12] at H
      have c12b0 : ((strOfNums t183).toList == (strOfNums t187).toList) = false := beq_eq_false_iff_ne.mpr c12
      have c12b1 : ((strOfNums t183).toList != (strOfNums t187).toList) = true := bne_iff_ne.mpr c12
      obtain rfl := Option.some.inj H
      go_enter Try.func4, Try.ntmps4
      go_wp2_with (first | ((with_reducible refine gate_dst (N := 4) rfl ?_); refine box_event ?hg (N := 4) ?hd (cs := #[.int .i64 a1_0, .int .i64 a1_1]) (t := 36) ?hr ?_; (case hd => rfl); (case hg => rfl); (case hr => first | (go_simp; done) | (go_simp; rfl)); intro gb181 hg w61 hbox hb; have n0_ := Aside0.mk (below_step (by repeat (first | (with_reducible first | exact HB.out | apply below_alloc | apply pw_below_drewN | apply below_drew1) | exact HB.out)) hb); have n1_ := Aside0.mk (hbox); have n2_ := Aside0.mk ((by rw [hg]; exact (below_size (by repeat (first | (with_reducible first | exact HB.out | apply below_alloc | apply pw_below_drewN | apply below_drew1) | exact HB.out))) : w.heap.size ≤ gb181)); have n3_ := Aside0.mk ((by rw [hg]; exact (below_size (by repeat (first | (with_reducible first | exact HB.out | apply below_alloc | apply pw_below_drewN | apply below_drew1) | exact HB.out))) : w.heap.size ≤ gb181)); clear HB; have HB := n0_; have BK181 := n1_; have GW181 := n2_; have GE181 := n3_; clear n0_ n1_ n2_ n3_; clear hb hbox hg; have hcz62_0 : w61.cell? ⟨gb181, 0, none⟩ = some (.int .i64 a1_0) := (blk_cell BK181.out 0).trans rfl; have hcz62_1 : w61.cell? ⟨gb181, 1, none⟩ = some (.int .i64 a1_1) := (blk_cell BK181.out 1).trans rfl; have hfz62_0 := blk_frozen BK181.out 0; have hfz62_1 := blk_frozen BK181.out 1) | ((with_reducible refine gate_callee (f := 19) rfl ?_); refine goesL_ (some 28) rfl rfl Try.func19 (by kernel_rfl) rfl #[.slice A0 l0.length c0, .int .i64 a1_0, .int .i64 a1_1] rfl (by (try simp only [List.map_toArray, List.map_cons, List.map_nil]); first | done | rfl | (simp only [List.length_drop, List.length_take]; rfl)) ?_; (with_reducible refine (voice_Frame.calls k _ _ l0 a1_0 a1_1 t183 t184 _ ?side1 ?side2 A8.out).mono ?_); (case side1 => repeat (first | exact (Kd.C_below HR0.out HB.out) | (with_reducible refine Kd.C_alloc ?_ _) | (with_reducible refine Kd.C_drewN ?_ _) | (with_reducible refine Kd.C_drew ?_))); (case side2 => exact HC0.out); rintro e w63 ⟨v185, rfl, ho0, hb⟩; refine ⟨_, rfl, ?_⟩; have n0_ := Aside0.mk (Kd.R_lower ho0 (below_size (by repeat (first | (with_reducible first | exact HB.out | apply below_alloc | apply pw_below_drewN | apply below_drew1 | refine below_set ?_ GE181.out) | exact HB.out)))); have n1_ := Aside0.mk (blk_below (g := gb181) (o := .cells #[.int .i64 a1_0, .int .i64 a1_1] 36 (0, 0)) (by (with_reducible repeat (first | refine blk_drewN ?_ _ | refine blk_drew ?_ | refine blk_alloc ?_ _)); exact BK181.out) hb); have n2_ := Aside0.mk (below_step (by repeat (first | (with_reducible first | exact HB.out | apply below_alloc | apply pw_below_drewN | apply below_drew1 | refine below_set ?_ GE181.out) | exact HB.out)) hb); clear BK181; clear HB; have HO186 := n0_; have BK181 := n1_; have HB := n2_; clear n0_ n1_ n2_; (try clear hb); (try clear hb2); (try clear hk); (try clear hi); (try clear ho0); have hcz64_0 : w63.cell? ⟨gb181, 0, none⟩ = some (.int .i64 a1_0) := (blk_cell BK181.out 0).trans rfl; have hcz64_1 : w63.cell? ⟨gb181, 1, none⟩ = some (.int .i64 a1_1) := (blk_cell BK181.out 1).trans rfl; have hfz64_0 := blk_frozen BK181.out 0; have hfz64_1 := blk_frozen BK181.out 1) | ((with_reducible refine gate_callee (f := 20) rfl ?_); refine goesL_ (some 37) rfl rfl Try.func20 (by kernel_rfl) rfl #[.slice A0 l0.length c0, .int .i64 a1_0, .int .i64 a1_1] rfl (by (try simp only [List.map_toArray, List.map_cons, List.map_nil]); first | done | rfl | (simp only [List.length_drop, List.length_take]; rfl)) ?_; (with_reducible refine (wireglassref25_Frame.calls k _ _ l0 a1_0 a1_1 t187 t188 _ ?side1 ?side2 A9.out).mono ?_); (case side1 => repeat (first | exact (Kd.C_below HR0.out HB.out) | (with_reducible refine Kd.C_alloc ?_ _) | (with_reducible refine Kd.C_drewN ?_ _) | (with_reducible refine Kd.C_drew ?_))); (case side2 => exact HC0.out); rintro e w65 ⟨v189, rfl, ho0, hb⟩; refine ⟨_, rfl, ?_⟩; have n0_ := Aside0.mk (Kd.R_elder' (by (with_reducible repeat (first | apply Kd.R_alloc | apply Kd.R_drewN | apply Kd.R_drew)); exact HO186.out) (Kd.R_base ho0) hb); have n1_ := Aside0.mk (Kd.R_lower (Kd.R_new' ho0 (Kd.R_lt (by (with_reducible repeat (first | apply Kd.R_alloc | apply Kd.R_drewN | apply Kd.R_drew)); exact HO186.out))) (below_size (by repeat (first | (with_reducible first | exact HB.out | apply below_alloc | apply pw_below_drewN | apply below_drew1 | refine below_set ?_ GE181.out) | exact HB.out)))); have n2_ := Aside0.mk (blk_below (g := gb181) (o := .cells #[.int .i64 a1_0, .int .i64 a1_1] 36 (0, 0)) (by (with_reducible repeat (first | refine blk_drewN ?_ _ | refine blk_drew ?_ | refine blk_alloc ?_ _)); exact BK181.out) hb); have n3_ := Aside0.mk (below_step (by repeat (first | (with_reducible first | exact HB.out | apply below_alloc | apply pw_below_drewN | apply below_drew1 | refine below_set ?_ GE181.out) | exact HB.out)) hb); clear HO186; clear BK181; clear HB; have HO186 := n0_; have HO190 := n1_; have BK181 := n2_; have HB := n3_; clear n0_ n1_ n2_ n3_; (try clear hb); (try clear hb2); (try clear hk); (try clear hi); (try clear ho0)) | ((with_reducible refine gate_callee (f := 21) rfl ?_); refine goesL_ (some 42) rfl rfl Try.func21 (by kernel_rfl) rfl #[.slice A2 l2.length c2] rfl (by (try simp only [List.map_toArray, List.map_cons, List.map_nil]); first | done | rfl | (simp only [List.length_drop, List.length_take]; rfl)) ?_; (with_reducible refine (voice_Unframe.calls _ _ l2 t191 t192 _ ?side1 ?side2 A10.out).mono ?_); (case side1 => repeat (first | exact (Kd.C_below HR2.out HB.out) | (with_reducible refine Kd.C_alloc ?_ _) | (with_reducible refine Kd.C_drewN ?_ _) | (with_reducible refine Kd.C_drew ?_))); (case side2 => exact HC2.out); rintro e w66 ⟨v193, rfl, ho0, hb⟩; refine ⟨_, rfl, ?_⟩; have n0_ := Aside0.mk (Kd.R_below (by (with_reducible repeat (first | apply Kd.R_alloc | apply Kd.R_drewN | apply Kd.R_drew)); exact HO186.out) hb); have n1_ := Aside0.mk (Kd.R_below (by (with_reducible repeat (first | apply Kd.R_alloc | apply Kd.R_drewN | apply Kd.R_drew)); exact HO190.out) hb); have n2_ := Aside0.mk (Kd.R_lower ho0 (below_size (by repeat (first | (with_reducible first | exact HB.out | apply below_alloc | apply pw_below_drewN | apply below_drew1 | refine below_set ?_ GE181.out) | exact HB.out)))); have n3_ := Aside0.mk (blk_below (g := gb181) (o := .cells #[.int .i64 a1_0, .int .i64 a1_1] 36 (0, 0)) (by (with_reducible repeat (first | refine blk_drewN ?_ _ | refine blk_drew ?_ | refine blk_alloc ?_ _)); exact BK181.out) hb); have n4_ := Aside0.mk (below_step (by repeat (first | (with_reducible first | exact HB.out | apply below_alloc | apply pw_below_drewN | apply below_drew1 | refine below_set ?_ GE181.out) | exact HB.out)) hb); clear HO186; clear HO190; clear BK181; clear HB; have HO186 := n0_; have HO190 := n1_; have HO194 := n2_; have BK181 := n3_; have HB := n4_; clear n0_ n1_ n2_ n3_ n4_; (try clear hb); (try clear hb2); (try clear hk); (try clear hi); (try clear ho0)) | ((with_reducible refine gate_callee (f := 22) rfl ?_); refine goesL_ (some 47) rfl rfl Try.func22 (by kernel_rfl) rfl #[.slice A2 l2.length c2] rfl (by (try simp only [List.map_toArray, List.map_cons, List.map_nil]); first | done | rfl | (simp only [List.length_drop, List.length_take]; rfl)) ?_; (with_reducible refine (wireglassref25_Unframe.calls _ _ l2 t195 t196 _ ?side1 ?side2 A11.out).mono ?_); (case side1 => repeat (first | exact (Kd.C_below HR2.out HB.out) | (with_reducible refine Kd.C_alloc ?_ _) | (with_reducible refine Kd.C_drewN ?_ _) | (with_reducible refine Kd.C_drew ?_))); (case side2 => exact HC2.out); rintro e w67 ⟨v197, rfl, ho0, hb⟩; refine ⟨_, rfl, ?_⟩; have n0_ := Aside0.mk (Kd.R_below (by (with_reducible repeat (first | apply Kd.R_alloc | apply Kd.R_drewN | apply Kd.R_drew)); exact HO186.out) hb); have n1_ := Aside0.mk (Kd.R_below (by (with_reducible repeat (first | apply Kd.R_alloc | apply Kd.R_drewN | apply Kd.R_drew)); exact HO190.out) hb); have n2_ := Aside0.mk (Kd.R_elder' (by (with_reducible repeat (first | apply Kd.R_alloc | apply Kd.R_drewN | apply Kd.R_drew)); exact HO194.out) (Kd.R_base ho0) hb); have n3_ := Aside0.mk (Kd.R_lower (Kd.R_new' ho0 (Kd.R_lt (by (with_reducible repeat (first | apply Kd.R_alloc | apply Kd.R_drewN | apply Kd.R_drew)); exact HO194.out))) (below_size (by repeat (first | (with_reducible first | exact HB.out | apply below_alloc | apply pw_below_drewN | apply below_drew1 | refine below_set ?_ GE181.out) | exact HB.out)))); have n4_ := Aside0.mk (blk_below (g := gb181) (o := .cells #[.int .i64 a1_0, .int .i64 a1_1] 36 (0, 0)) (by (with_reducible repeat (first | refine blk_drewN ?_ _ | refine blk_drew ?_ | refine blk_alloc ?_ _)); exact BK181.out) hb); have n5_ := Aside0.mk (below_step (by repeat (first | (with_reducible first | exact HB.out | apply below_alloc | apply pw_below_drewN | apply below_drew1 | refine below_set ?_ GE181.out) | exact HB.out)) hb); clear HO186; clear HO190; clear HO194; clear BK181; clear HB; have HO186 := n0_; have HO190 := n1_; have HO194 := n2_; have HO198 := n3_; have BK181 := n4_; have HB := n5_; clear n0_ n1_ n2_ n3_ n4_ n5_; (try clear hb); (try clear hb2); (try clear hk); (try clear hi); (try clear ho0); have hcv68 := own_string (P := Try.prog) Try.underlying37 Try.underlying5 Try.underlying9 (Kd.own_of_R HO186.out); have hcv69 := own_string (P := Try.prog) Try.underlying37 Try.underlying5 Try.underlying9 (Kd.own_of_R HO190.out)))
      go_ret
      exact ⟨by first | rfl | (simp [errW_none, errW_some] <;> rfl) | (simp [*, errW_none, errW_some] <;> rfl), by repeat (first | (with_reducible first | exact HB.out | apply below_alloc | apply pw_below_drewN | apply below_drew1 | refine below_set ?_ GE181.out) | exact HB.out)⟩

/-- THE ONE PURE STATEMENT of wireglasslaw25_VoiceFrames: yours. -/
def wireglasslaw25_VoiceFrames.Pure : Prop := ∀ (l0 : List Int) (a1_0 : Int) (a1_1 : Int) (l2 : List Int), l0.length ≤ maxLen → l0.length * 8 ≤ 140737488351232 → (∀ x ∈ l0, (Lit.int .i64 x).wf = true) → (Lit.int .i64 a1_0).wf = true → (Lit.int .i64 a1_1).wf = true → l2.length ≤ maxLen → l2.length * 1 ≤ 140737488351232 → (∀ x ∈ l2, (Lit.int .u8 x).wf = true) → ∃ k, wireglasslaw25_VoiceFrames.f k l0 a1_0 a1_1 l2 = some true
theorem wireglasslaw25_VoiceFrames.walk (P : wireglasslaw25_VoiceFrames.Pure) (a0 : Option Addr) (len0 cap0 : Nat) (z0 : List Int) (a1_0 : Int) (a1_1 : Int) (a2 : Option Addr) (len2 cap2 : Nat) (z2 : List Int) (w : World) (w0 : (a0 = none ∧ len0 = 0 ∧ cap0 = 0 ∧ z0 = []) ∨ ∃ x, a0 = some x ∧ len0 ≤ cap0 ∧ cap0 ≤ maxLen ∧ z0.length = cap0 ∧ (∀ i, i < z0.length → w.cell? (x.add i) = some (.int .i64 (z0.getD i 0))) ∧ ∀ n ∈ z0, (Lit.int .i64 n).wf = true) (y0 : len0 * 8 ≤ 140737488351232) (w1_0 : (Lit.int .i64 a1_0).wf = true) (w1_1 : (Lit.int .i64 a1_1).wf = true) (w2 : (a2 = none ∧ len2 = 0 ∧ cap2 = 0 ∧ z2 = []) ∨ ∃ x, a2 = some x ∧ len2 ≤ cap2 ∧ cap2 ≤ maxLen ∧ z2.length = cap2 ∧ (∀ i, i < z2.length → w.cell? (x.add i) = some (.int .u8 (z2.getD i 0))) ∧ ∀ n ∈ z2, (Lit.int .u8 n).wf = true) (y2 : len2 * 1 ≤ 140737488351232) :
    Calls Try.prog 4 #[.slice a0 len0 cap0, .agg #[.int .i64 a1_0, .int .i64 a1_1], .slice a2 len2 cap2] w fun e w' => e = .returned (.bool true) ∧ Below w.heap.size w w' := by
  obtain ⟨l0, rfl, hr0, hm0, hw0, hc0⟩ := ReadsInt.ofRowC w0
  obtain ⟨l2, rfl, hr2, hm2, hw2, hc2⟩ := ReadsInt.ofRowC w2
  obtain ⟨k, h⟩ := P l0 a1_0 a1_1 l2 hm0 y0 hw0 w1_0 w1_1 hm2 y2 hw2
  refine (wireglasslaw25_VoiceFrames.calls k _ _ l0 a1_0 a1_1 _ _ l2 true w (Kd.C_of_reads (d := (0 : Int)) (h1 := fun _ => rfl) hr0) hc0 (Kd.C_of_reads (d := (0 : Int)) (h1 := fun _ => rfl) hr2) hc2 h).mono ?_
  rintro e w' ⟨rfl, hd⟩
  exact ⟨rfl, hd⟩

end Go.Proofs.Ytphkkdjinehhoaa.G
