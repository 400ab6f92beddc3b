/- Laid by a program of this repo over the translation: each Go function as a plain Lean function with the proof that the call comes to its answers, or a statement's row out of these; conditions: the hypotheses of each theorem. -/
import Derived.Test.YtcinmodpfdehpaaPx0
import Derived.Test.YtcinmodpfdehpaaPx1
import Derived.Test.YtcinmodpfdehpaaPx3
namespace Go.Proofs.Ytcinmodpfdehpaa.P
open Go.RowKit Go.Proofs.YtcinmodpfdehpaaW.PrintWords Go.Proofs.YtcinmodpfdehpaaW.PrintLast Go.Proofs.YtcinmodpfdehpaaW.PrintMore
attribute [local go_sem] max2_int min2_int max_two min_two max_three min_three max_four min_four   -- for this text's walks alone
set_option linter.unusedVariables false
set_option linter.unusedSimpArgs false

/-! ### voice_Unframe: function 18 -/
-- EXT rounds=0 making=1
-- STATE voice.Coder
def vBytes (b : List Int) : Bool := b.all fun x => decide (0 ≤ x ∧ x ≤ 255)
def vUnOk (b : List Int) : Bool := decide (4 ≤ b.length ∧ rd b 3 ≠ 0 ∧ rd b 2 ≤ 88 ∧ (b.length : Int) = 4 + (rd b 3 + 1) / 2 ∧ ¬ (rd b 3 % 2 = 1 ∧ rd b ((b.length : Int) - 1) % 16 ≠ 0))
def vNib (b : List Int) (i : Int) : Int := if i % 2 = 0 then rd b (4 + i / 2) / 16 else rd b (4 + i / 2) % 16
def vUn (b : List Int) : Nat → Int → Int → Int → List Int
  | 0, _, _, _ => []
  | m + 1, i, p, k => vP p (rd (vStepsL 89) k) (vNib b i) :: vUn b m (i + 1) (vP p (rd (vStepsL 89) k) (vNib b i)) (vK k (vNib b i))
def vP0 (b : List Int) : Int := if 256 * rd b 0 + rd b 1 > 32767 then 256 * rd b 0 + rd b 1 - 65536 else 256 * rd b 0 + rd b 1
def voice_Unframe.f (b : List Int) : Option (List Int × Int) := if vBytes b = true then (if vUnOk b = true then some (vUn b (rd b 3).toNat 0 (vP0 b) (rd b 2), 0) else some ([], 11)) else none
theorem vBytes_rd {b : List Int} (h : vBytes b = true) (i : Int) (h0 : 0 ≤ i) (h1 : i < b.length) : 0 ≤ rd b i ∧ rd b i ≤ 255 := by
  obtain ⟨n, rfl⟩ := Int.eq_ofNat_of_zero_le h0
  have := List.all_eq_true.1 h (b[n]'(by omega)) (List.getElem_mem _)
  rw [show rd b (n : Int) = b[n]'(by omega) by unfold rd; rw [List.getD_eq_getElem?_getD, Int.toNat_natCast, List.getElem?_eq_getElem (by omega : n < b.length)]; rfl]
  simpa using this
theorem and8_15 (a : Int) (h0 : 0 ≤ a) (h1 : a ≤ 255) : Go.bits .and .u8 a 15 = a % 16 := by
  have h : ∀ i : Fin 256, Go.bits .and .u8 (i.val : Int) 15 = (i.val : Int) % 16 := by decide +kernel
  obtain ⟨n, rfl⟩ := Int.eq_ofNat_of_zero_le h0
  exact h ⟨n, by omega⟩
set_option maxHeartbeats 8000000 in
set_option maxRecDepth 100000 in
theorem voice_Unframe.fails (A0 : Option Addr) (c0 : Nat) (l0 : List Int) (w : World) (hr0 : Kd.C (Kd.int .u8) w A0 l0.length l0) (hc0 : l0.length ≤ c0) (hy : vBytes l0 = true) (h : vUnOk l0 = false) :
    Calls Try.prog 18 #[.slice A0 l0.length c0] w fun e w' => ∃ v0_ : Value, e = .returned (.tuple #[v0_, .int .i64 11]) ∧ Kd.R (Kd.int .i64) 3 w' w.heap.size (fun _ => True) v0_ [] ∧ Below w.heap.size w w' := by
  have hm := Kd.C_max hr0
  have HR0 := Aside0.mk hr0
  have HC0 := Aside0.mk hc0
  have HY := Aside0.mk hy
  clear hr0 hc0 hy
  have H := Aside0.mk h
  clear h
  by_cases c1 : (l0.length : Int) < 4
  · have c1b0 : decide ((l0.length : Int) < 4) = true := decide_eq_true c1
    have c1b1 : decide (l0.length < 4) = true := decide_eq_true (by omega)
    clear c1
    go_enter Try.func18, Try.ntmps18
    go_wp2
    go_ret2
    exact ⟨.slice none 0 0, rfl, Kd.R_nil _ _ _ _ _, by repeat (first | exact Below.refl _ _ | apply pw_below_drewN | apply below_drew1)⟩
  have c1b0 : decide ((l0.length : Int) < 4) = false := decide_eq_false c1
  have c1b1 : decide (l0.length < 4) = false := decide_eq_false (by omega)
  obtain ⟨ad, e, hx3⟩ := Kd.at_int HR0.out 3 (by omega) (by omega)
  cases e
  obtain ⟨ad', e, hx2⟩ := Kd.at_int HR0.out 2 (by omega) (by omega)
  cases e
  obtain ⟨hn0, hn1⟩ := vBytes_rd HY.out 3 (by omega) (by omega)
  obtain ⟨hk0, hk1⟩ := vBytes_rd HY.out 2 (by omega) (by omega)
  obtain ⟨ad', e, hxl⟩ := Kd.at_int HR0.out ((l0.length : Int) - 1) (by omega) (by omega)
  cases e
  have hbl := vBytes_rd HY.out ((l0.length : Int) - 1) (by omega) (by omega)
  have hand := and8_15 _ hbl.1 hbl.2
  obtain ⟨x3, h3⟩ : ∃ x, rd l0 3 = x := ⟨_, rfl⟩
  obtain ⟨x2, h2⟩ : ∃ x, rd l0 2 = x := ⟨_, rfl⟩
  obtain ⟨xl, hl⟩ : ∃ x, rd l0 ((l0.length : Int) - 1) = x := ⟨_, rfl⟩
  have HH : Aside0 (¬ (x3 ≠ 0 ∧ x2 ≤ 88 ∧ (l0.length : Int) = 4 + (x3 + 1) / 2 ∧ ¬ (x3 % 2 = 1 ∧ xl % 16 ≠ 0))) := ⟨by
    have h := H.out
    unfold vUnOk at h
    rw [decide_eq_false_iff_not, h3, h2, hl] at h
    exact fun h' => h ⟨by omega, h'⟩⟩
  rw [h3] at hx3 hn0 hn1
  rw [h2] at hx2 hk0 hk1
  rw [hl] at hxl hbl hand
  clear h3 h2 hl H
  simp only [Int.reduceToNat, Nat.reduceEqDiff, Go.Addr.add, ↓reduceIte] at hx3 hx2
  have hwl : IntKind.i64.wrap ((l0.length : Int) - 1) = (l0.length : Int) - 1 := by rw [i64_w]; unfold wrap64; omega
  have hxm := hxl
  rw [show ((l0.length : Int) - 1).toNat = l0.length - 1 by omega] at hxm
  have q1 : (0 : Int) ≤ (l0.length : Int) - 1 := by omega
  have q2 : (l0.length : Int) - 1 < l0.length := by omega
  by_cases c2 : x3 = 0
  · subst c2
    clear hbl hk0 hk1 hand
    go_enter Try.func18, Try.ntmps18
    go_wp2
    go_ret2
    exact ⟨.slice none 0 0, rfl, Kd.R_nil _ _ _ _ _, by repeat (first | exact Below.refl _ _ | apply pw_below_drewN | apply below_drew1)⟩
  have c2b : (x3 == 0) = false := by simpa using c2
  have c2c : (x3 != 0) = true := by simpa using c2
  by_cases c3 : 88 < x2
  · have c3b : decide (88 < x2) = true := decide_eq_true c3
    clear hbl hand
    go_enter Try.func18, Try.ntmps18
    go_wp2
    go_ret2
    exact ⟨.slice none 0 0, rfl, Kd.R_nil _ _ _ _ _, by repeat (first | exact Below.refl _ _ | apply pw_below_drewN | apply below_drew1)⟩
  have c3b : decide (88 < x2) = false := decide_eq_false c3
  by_cases c4 : (l0.length : Int) = 4 + (x3 + 1) / 2
  · have c4b : ((l0.length : Int) == 4 + (x3 + 1) / 2) = true := by simpa using c4
    have c4c : ((l0.length : Int) != 4 + (x3 + 1) / 2) = false := by simp [c4]
    by_cases c5 : x3 % 2 = 1
    · have c5b : (x3 % 2 == 1) = true := by simpa using c5
      by_cases c6 : xl % 16 = 0
      · exact absurd ⟨c2, by omega, c4, fun h => h.2 c6⟩ HH.out
      · have c6b : (xl % 16 == 0) = false := by simpa using c6
        have c6c : (xl % 16 != 0) = true := by simpa using c6
        clear hbl c2 c3 c4 c5 c6
        go_enter Try.func18, Try.ntmps18
        go_wp2
        go_ret2
        exact ⟨.slice none 0 0, rfl, Kd.R_nil _ _ _ _ _, by repeat (first | exact Below.refl _ _ | apply pw_below_drewN | apply below_drew1)⟩
    · exact absurd ⟨c2, by omega, c4, fun h => c5 h.1⟩ HH.out
  · have c4b : ((l0.length : Int) == 4 + (x3 + 1) / 2) = false := by simpa using c4
    have c4c : ((l0.length : Int) != 4 + (x3 + 1) / 2) = true := by simpa using c4
    clear hbl hand c2 c3 c4
    go_enter Try.func18, Try.ntmps18
    go_wp2
    go_ret2
    exact ⟨.slice none 0 0, rfl, Kd.R_nil _ _ _ _ _, by repeat (first | exact Below.refl _ _ | apply pw_below_drewN | apply below_drew1)⟩
theorem or_u64 (a b : Int) (h1 : 0 ≤ a) (h2 : a < 18446744073709551616) (h3 : 0 ≤ b) (h4 : b < 18446744073709551616) : Go.bits .or .u64 a b = ((a.toNat ||| b.toNat : Nat) : Int) := by
  simp only [Go.bits, BitVec.toNat_or]
  rw [show IntKind.u64.bits = 64 from rfl, Hand.ofInt64, Hand.ofInt64, Int.emod_eq_of_lt h1 (by omega), Int.emod_eq_of_lt h3 (by omega)]
  have := Nat.or_lt_two_pow (n := 64) (x := a.toNat) (y := b.toNat) (by omega) (by omega)
  rw [IntKind.wrap_u64]; omega
theorem or_byte {a b : Int} (h1 : 0 ≤ a) (h2 : a < 72057594037927936) (h3 : 0 ≤ b) (h4 : b < 256) : Go.bits .or .u64 (a * 256) b = 256 * a + b := by
  rw [or_u64 _ _ (by omega) (by omega) (by omega) (by omega)]
  have := Nat.two_pow_add_eq_or_of_lt (i := 8) (b := b.toNat) (by omega) a.toNat
  rw [show (a * 256).toNat = 2 ^ 8 * a.toNat by omega, ← this]
  omega
theorem get2_f (x y : Int) (h0 : 0 ≤ x) (h1 : x ≤ 255) (h2 : 0 ≤ y) (h3 : y ≤ 255) : wide_Get.f 3 [x, y] false = some (256 * x + y) := by
  have e1 : Go.bits .or .u64 (0 * 256) x = 256 * 0 + x := or_byte (by omega) (by omega) h0 (by omega)
  have e2 : Go.bits .or .u64 (x * 256) y = 256 * x + y := or_byte h0 (by omega) h2 (by omega)
  have wx : IntKind.u64.wrap x = x := by rw [IntKind.wrap_u64]; omega
  have wy : IntKind.u64.wrap y = y := by rw [IntKind.wrap_u64]; omega
  have wxx : IntKind.u64.wrap (x * 256) = x * 256 := by rw [IntKind.wrap_u64]; omega
  have w0 : IntKind.u64.wrap (0 * 256) = 0 * 256 := by decide
  have v1 : wrap64 (0 + 1) = 1 := Hand.w64 (by decide) (by decide)
  have v2 : wrap64 (1 + 1) = 2 := Hand.w64 (by decide) (by decide)
  have r0 : rd [x, y] 0 = x := rfl
  have r1 : rd [x, y] 1 = y := rfl
  unfold wide_Get.f
  rw [show (([x, y] : List Int).length : Int) = 2 from rfl]
  rw [wide_Get.l0, if_pos (by decide), if_neg (by decide), if_pos (by decide), if_pos (by simp), r0, wx, w0, e1, v1]
  rw [show (256 : Int) * 0 + x = x by omega]
  rw [wide_Get.l0, if_pos (by decide), if_neg (by decide), if_pos (by decide), if_pos (by simp), r1, wy, wxx, e2, v2]
  rw [wide_Get.l0, if_neg (by decide)]
theorem C_two {w : World} {ad : Addr} {l : List Int} (h : Kd.C (Kd.int .u8) w (some ad) l.length l) (h2 : 2 ≤ l.length) : Kd.C (Kd.int .u8) w (some ad) [rd l 0, rd l 1].length [rd l 0, rd l 1] := by
  match l, h2, h with
  | a :: b :: r, _, h =>
    refine ⟨rfl, by simp, fun _ => ?_⟩
    obtain ⟨ad', e, hc⟩ := h.2.2 (by simp)
    refine ⟨ad', e, fun j p hj => hc j p ?_⟩
    match j, hj with
    | 0, hj => simpa [rd] using hj
    | 1, hj => simpa [rd] using hj
    | j + 2, hj => simp at hj
theorem get2.calls (ad : Addr) (c0 : Nat) (l : List Int) (w : World) (h : Kd.C (Kd.int .u8) w (some ad) l.length l) (h2 : 2 ≤ l.length) (hc : l.length ≤ c0) (hx : 0 ≤ rd l 0 ∧ rd l 0 ≤ 255) (hy : 0 ≤ rd l 1 ∧ rd l 1 ≤ 255) :
    Calls Try.prog 36 #[.slice (some ad) 2 c0, .bool false] w fun e w' => e = .returned (.int .u64 (256 * rd l 0 + rd l 1)) ∧ Drawn0 w w' :=
  wide_Get.calls 3 (some ad) c0 [rd l 0, rd l 1] false _ w (C_two h h2) (by simp; omega) (get2_f _ _ hx.1 hx.2 hy.1 hy.2)
theorem C_set {w : World} {ad : Addr} {n : Nat} {l : List Int} (h : Kd.C (Kd.int .u8) w (some ad) n l) {p : Addr} (hp : ad.block ≠ p.block) (u : Value) : Kd.C (Kd.int .u8) (w.setCell p u) (some ad) n l := by
  refine ⟨h.1, h.2.1, fun hn => ?_⟩
  obtain ⟨ad', e, hc⟩ := h.2.2 hn
  cases e
  refine ⟨ad, rfl, fun j q hj => ?_⟩
  obtain ⟨c, hs, hr, hcell⟩ := hc j q hj
  refine ⟨c, hs, hr, fun i v hv => ?_⟩
  rw [← hcell i v hv]
  exact World.cell?_setCell_other _ _ _ _ (fun e => hp (by have := congrArg Addr.block e; rw [add_block] at this; first | exact this | exact this.symm))
theorem below_from_ {w1 W w' : World} {row : Option Nat} (h : Below w1.heap.size w1 W) (hg : W.grownBy w' row) (hr : ∀ k, row = some k → w1.heap.size ≤ k) : Below w1.heap.size w1 w' := h.grown hg h.size hr
theorem i16_two (b : List Int) (h0 : 0 ≤ rd b 0) (h1 : rd b 0 ≤ 255) (h2 : 0 ≤ rd b 1) (h3 : rd b 1 ≤ 255) : IntKind.i16.wrap (256 * rd b 0 + rd b 1) = vP0 b := by
  unfold vP0
  have : IntKind.i16.wrap (256 * rd b 0 + rd b 1) = (256 * rd b 0 + rd b 1 + 32768) % 65536 - 32768 := by simp [IntKind.wrap, IntKind.signed, IntKind.bits]; omega
  rw [this]; split <;> omega
/-- Behind the frame's head: the coder stands at p0, k0. -/
def vUnAt (w w' : World) (g : Nat) (p k : Int) : Prop := ∃ w1, IsS63 w1 w' g p k (vStepsL 89) ∧ Below w1.heap.size w1 w' ∧ Below w.heap.size w w1
set_option maxHeartbeats 8000000 in
set_option maxRecDepth 100000 in
theorem voice_Unframe.does (A0 : Option Addr) (c0 : Nat) (l0 : List Int) (w : World) (hr0 : Kd.C (Kd.int .u8) w A0 l0.length l0) (hc0 : l0.length ≤ c0) (hy : vBytes l0 = true) (h : vUnOk l0 = true) :
    Calls Try.prog 18 #[.slice A0 l0.length c0] w fun e w' => ∃ v0_ : Value, e = .returned (.tuple #[v0_, .int .i64 0]) ∧ Kd.R (Kd.int .i64) 3 w' w.heap.size (fun _ => True) v0_ (vUn l0 (rd l0 3).toNat 0 (vP0 l0) (rd l0 2)) ∧ Below w.heap.size w w' := by
  have hm := Kd.C_max hr0
  have HR0 := Aside0.mk hr0
  have HC0 := Aside0.mk hc0
  have HY := Aside0.mk hy
  clear hr0 hc0 hy
  obtain ⟨c1, c2, c3, c4, c5⟩ := of_decide_eq_true h
  clear h
  have c1b0 : decide ((l0.length : Int) < 4) = false := decide_eq_false (by omega)
  have c1b1 : decide (l0.length < 4) = false := decide_eq_false (by omega)
  obtain ⟨ad, e, hx3⟩ := Kd.at_int HR0.out 3 (by omega) (by omega)
  cases e
  obtain ⟨ad', e, hx2⟩ := Kd.at_int HR0.out 2 (by omega) (by omega)
  cases e
  obtain ⟨ad', e, hxl⟩ := Kd.at_int HR0.out ((l0.length : Int) - 1) (by omega) (by omega)
  cases e
  obtain ⟨hn0, hn1⟩ := vBytes_rd HY.out 3 (by omega) (by omega)
  obtain ⟨hk0, hk1⟩ := vBytes_rd HY.out 2 (by omega) (by omega)
  have hbl := vBytes_rd HY.out ((l0.length : Int) - 1) (by omega) (by omega)
  have hand := and8_15 _ hbl.1 hbl.2
  obtain ⟨x3, h3⟩ : ∃ x, rd l0 3 = x := ⟨_, rfl⟩
  obtain ⟨x2, h2⟩ : ∃ x, rd l0 2 = x := ⟨_, rfl⟩
  obtain ⟨xl, hl⟩ : ∃ x, rd l0 ((l0.length : Int) - 1) = x := ⟨_, rfl⟩
  rw [h3] at hx3 hn0 hn1 c2 c4 c5
  rw [h2] at hx2 hk0 hk1 c3
  rw [hl] at hxl hbl hand c5
  rw [h3, h2]
  clear h3 h2 hl
  simp only [Int.reduceToNat, Nat.reduceEqDiff, Go.Addr.add, ↓reduceIte] at hx3 hx2
  have hwl : IntKind.i64.wrap ((l0.length : Int) - 1) = (l0.length : Int) - 1 := by rw [i64_w]; unfold wrap64; omega
  have hxm := hxl
  rw [show ((l0.length : Int) - 1).toNat = l0.length - 1 by omega] at hxm
  have q1 : (0 : Int) ≤ (l0.length : Int) - 1 := by omega
  have q2 : (l0.length : Int) - 1 < l0.length := by omega
  have c2b : (x3 == 0) = false := by simpa using c2
  have c2c : (x3 != 0) = true := by simpa using c2
  have c3b : decide (88 < x2) = false := decide_eq_false (by omega)
  have c4b : ((l0.length : Int) == 4 + (x3 + 1) / 2) = true := by simpa using c4
  have c4c : ((l0.length : Int) != 4 + (x3 + 1) / 2) = false := by simp [c4]
  obtain ⟨W, hW⟩ : ∃ W, w = W := ⟨_, rfl⟩
  have c5x : ((x3 % 2 == 1) = true ∧ (xl % 16 == 0) = true ∧ (xl % 16 != 0) = false) ∨ (x3 % 2 == 1) = false := by
    by_cases c : x3 % 2 = 1
    · have : xl % 16 = 0 := by
        by_cases c' : xl % 16 = 0
        · exact c'
        · exact absurd ⟨c, c'⟩ c5
      left; simp [c, this]
    · right; simpa using c
  clear hW W
  have HC4 := Aside0.mk c4
  clear hbl c2 c4 c5
  obtain ⟨hy00, hy01⟩ := vBytes_rd HY.out 0 (by omega) (by omega)
  obtain ⟨hy10, hy11⟩ := vBytes_rd HY.out 1 (by omega) (by omega)
  have HY0 := Aside0.mk (And.intro hy00 hy01)
  have HY1 := Aside0.mk (And.intro hy10 hy11)
  have hwx : IntKind.i64.wrap x2 = x2 := by rw [i64_w]; unfold wrap64; omega
  have hs1 : (2 : Int) ≤ (c0 : Int) := by have := HC0.out; omega
  have hs2 : 2 ≤ c0 := by omega
  have hs3 : (2 : Int) < (l0.length : Int) := by omega
  have hs4 : 2 < l0.length := by omega
  have hs5 : decide ((2 : Int) < (l0.length : Int)) = true := decide_eq_true hs3
  have hs6 : decide ((2 : Int) ≤ (c0 : Int)) = true := decide_eq_true hs1
  have HV : Aside0 (vP0 l0 = IntKind.i64.wrap (IntKind.i16.wrap (256 * rd l0 0 + rd l0 1))) := ⟨by have h := i16_two l0 hy00 hy01 hy10 hy11; rw [h, i64_w]; unfold vP0 wrap64; split <;> omega⟩
  clear hy00 hy01 hy10 hy11
  obtain ⟨R, hR⟩ : ∃ R, vUn l0 x3.toNat 0 (vP0 l0) x2 = R := ⟨_, rfl⟩
  rw [hR]
  have HX0 := Aside0.mk hR
  clear hR
  rcases c5x with ⟨d1, d2, d3⟩ | d1
  all_goals
    go_enter Try.func18, Try.ntmps18
    go_upto_region 7 with (go_at_call 31; (with_reducible refine (voice_NewCoder.calls _).mono ?_); rintro e w2 ⟨g, w1, rfl, hI, hb, hb2⟩; have HI := Aside0.mk hI; have HB := Aside0.mk hb; have HB2 : Aside0 (Below w.heap.size w w1) := ⟨(pw_below_drewN (Below.refl _ w) 0).trans hb2⟩; clear hI hb hb2)
    obtain ⟨A2, c2, HG, hg, hc⟩ := HI.out
    have k0 := cellS63_0 HG
    have k1 := cellS63_1 HG
    have k2 := blk_frozen HG 0
    have k3 := blk_frozen HG 1
    have hgw : w.heap.size ≤ g := Nat.le_trans HB2.out.size hg
    have hbw : Below w.heap.size w w2 := HB2.out.trans (HB.out.mono HB2.out.size)
    have HR2 := Aside0.mk (Kd.C_below HR0.out hbw)
    have HFG := Aside0.mk (show ad.block ≠ g from by have := Kd.C_lt HR0.out (by omega) (by decide); omega)
    have hz2 := pw_cell_below hbw hx2
    have HZ := Aside0.mk hz2
    clear HG hg hc hbw hx2 hx3 hxl hxm hgw
    go_cut [5] from 8 (fun s5 wx => s5 = .pointer (some ⟨g, 0, none⟩) ∧ vUnAt w wx g (vP0 l0) x2)
    case first =>
      go_region_held3 (fun w' => w'.cell? ⟨ad.block, ad.off + 2, none⟩ = some (.int .u8 x2)) (exact keep_cell (by repeat (first | exact KeepBut.refl w2 g none | apply KeepBut.set_ | apply keep_drewN | apply keep_drew)) HZ.out HFG.out)
      (first
        | (go_at_call 36; (with_reducible refine (get2.calls ad c0 l0 _ ?gr ?gl HC0.out HY0.out HY1.out).mono ?_); (case gr => (repeat (first | exact HR2.out | (with_reducible refine Kd.C_drew ?_) | (with_reducible refine Kd.C_drewN ?_ _) | (with_reducible refine C_set ?_ HFG.out _)))); (case gl => omega); rintro e w' ⟨rfl, ⟨nd, rfl⟩⟩))
      all_goals go_wp2
      all_goals go_meet
      all_goals (refine ⟨rfl, w1, ?_, ?_, HB2.out⟩)
      all_goals try rw [HV.out]
      all_goals (first
        | exact IsS63.set_1 (IsS63.set_0 (IsS63.drewN HI.out _) _) _
        | exact IsS63.set_0 (IsS63.set_1 (IsS63.drewN HI.out _) _) _
        | exact below_set (below_set (pw_below_drewN HB.out _) (IsS63.ge HI.out)) (IsS63.ge HI.out))
    clear hz2 k0 k1 k2 k3 HZ HI HB HB2 HR2 HFG
    obtain ⟨rfl, w1, hI, hb, hb2⟩ := hcut
    have HI0 := Aside0.mk hI
    have HB := Aside0.mk hb
    have HB2 := Aside0.mk hb2
    clear hI hb hb2
    have hp00 : -32768 ≤ vP0 l0 ∧ vP0 l0 ≤ 32767 := by have := HY0.out; have := HY1.out; unfold vP0; split <;> omega
    have HBD := Aside0.mk hp00
    clear hp00
    go_wp2
    go_loopg [6, 64] x3.toNat (fun kq v6 v64 w' => ∃ (i : Int) (xs : List Int) (p k : Int), v64 = .int .i64 i ∧ 0 ≤ i ∧ i + kq = x3 ∧ Aside0 ((-32768 ≤ p ∧ p ≤ 32767) ∧ 0 ≤ k ∧ k ≤ 88) ∧ Aside0 (xs.length = i.toNat) ∧ Aside0 (xs ++ vUn l0 kq i p k = R) ∧ Aside0 (Kd.R (Kd.int .i64) 3 w' w.heap.size (fun k => w1.heap.size ≤ k) v6 xs) ∧ Aside0 (IsS63 w1 w' g p k (vStepsL 89)) ∧ Aside0 (Below w1.heap.size w1 w'))
    case atStart => exact ⟨0, [], vP0 l0, x2, rfl, by omega, by omega, ⟨HBD.out, hk0, c3⟩, ⟨rfl⟩, HX0, ⟨Kd.R_nil _ _ _ _ _⟩, HI0, HB⟩
    case round =>
      clear HX0 HI0 HB HBD
      obtain ⟨i, xs, p, k, rfl, hi0, hik, HBD, HLN, HX, HO, HI0, HB⟩ := hrel
      have HLX : Aside0 (xs.length ≤ 300) := ⟨by have := HLN.out; omega⟩
      by_cases ci : i < x3
      · obtain ⟨q, rfl⟩ : ∃ q, gk = q + 1 := ⟨gk - 1, by omega⟩
        have cib : decide (i < x3) = true := decide_eq_true ci
        have hix0 : 0 ≤ 4 + i / 2 := by omega
        have hix1 : 4 + i / 2 < (l0.length : Int) := by have := HC4.out; omega
        obtain ⟨ad', e, hxi⟩ := Kd.at_int HR0.out (4 + i / 2) hix0 hix1
        cases e
        replace hxi := pw_cell_below HB.out (pw_cell_below HB2.out hxi)
        obtain ⟨hb0, hb1⟩ := vBytes_rd HY.out (4 + i / 2) hix0 hix1
        have HX1 := HX.out
        rw [vUn] at HX1
        obtain ⟨y, hy⟩ : ∃ y, rd l0 (4 + i / 2) = y := ⟨_, rfl⟩
        obtain ⟨cc, hcc⟩ : ∃ cc, vNib l0 i = cc := ⟨_, rfl⟩
        rw [hcc] at HX1
        have hcc' := hcc
        unfold vNib at hcc'
        rw [hy] at hxi hb0 hb1 hcc'
        have HX := Aside0.mk HX1
        clear HX1 hcc hy
        have ha1 := and8_15 y hb0 hb1
        have ha2 := and8_15 (y / 16) (by omega) (by omega)
        have hy16 : y / 16 % 16 = y / 16 := by omega
        rw [hy16] at ha2
        have hcr : 0 ≤ cc ∧ cc < 16 := by rw [← hcc']; split <;> omega
        have HOK : Aside0 (voice_Coder_decode.f p k (vStepsL 89) cc = some (vP p (rd (vStepsL 89) k) cc, vP p (rd (vStepsL 89) k) cc, vK k cc)) := ⟨by unfold voice_Coder_decode.f; rw [if_pos (vOk_steps HBD.out.2.1 HBD.out.2.2 hcr.1 hcr.2 HBD.out.1.1 HBD.out.1.2)]⟩
        clear hy16 hcr
        by_cases cp : i % 2 = 0
        · rw [if_pos cp] at hcc'
          subst hcc'
          have hwy : wrap64 (y / 16) = y / 16 := by unfold wrap64; omega
          clear hb0 hb1
          go_wp2_with (first
            | (go_at_call 37; (with_reducible refine (voice_Coder_decode.calls g p k (vStepsL 89) (y / 16) (vP p (rd (vStepsL 89) k) (y / 16)) (vP p (rd (vStepsL 89) k) (y / 16)) (vK k (y / 16)) w1 _ ?side1 ?side2 HOK.out).mono ?_); (case side1 => repeat (first | (with_reducible first | exact HI0.out | apply IsS63.alloc | apply IsS63.drewN | apply IsS63.drew) | exact HI0.out)); (case side2 => repeat (first | (with_reducible first | exact HB.out | apply below_alloc | apply pw_below_drewN | apply below_drew1) | exact HB.out)); rintro e w18 ⟨rfl, hi, hb, hk⟩; have n0_ := Aside0.mk (Kd.R_mono (Kd.R_keep (IsS63.apart (show IsS63 w1 _ g p k (vStepsL 89) from by repeat (first | (with_reducible first | exact HI0.out | apply IsS63.alloc | apply IsS63.drewN | apply IsS63.drew) | exact HI0.out)) (by (with_reducible repeat (first | apply Kd.R_alloc | apply Kd.R_drewN | apply Kd.R_drew)); exact HO.out) (by decide)) hk (fun _ h => h.2)) (fun _ h => h.1)); have n2_ := Aside0.mk hb; have n3_ := Aside0.mk hi; clear HO HB HI0; have HO := n0_; have HB := n2_; have HI0 := n3_; clear n0_ n2_ n3_ hb hk hi)
            | (at_builtin; refine Kd.R_append (Kd.int .i64) w.heap.size rfl (.tmp 67) (.tmp 83) 26 3 (.int .i64 0) 8 rfl Try.underlying26 info3 rfl (by decide) (by omega) _ xs (vP p (rd (vStepsL 89) k) (y / 16)) [.int .i64 (vP p (rd (vStepsL 89) k) (y / 16))] (fun k => w1.heap.size ≤ k) (fun _ => False) rfl rfl ?aP (fun _ hk => hk.elim) ?aF ?aO (Below.refl _ _) ?aS ?aL ?_; (case aP => exact rfl); (case aF => intro k_ hk_; have := HB.out.size; omega); (case aO => exact (by (with_reducible repeat (first | apply Kd.R_alloc | apply Kd.R_drewN | apply Kd.R_drew)); exact HO.out)); (case aS => have := HB.out.size; have := HB2.out.size; omega); (case aL => have := HLX.out; omega); intro v129 w19 ho hb hg hat; have n0_ := Aside0.mk (IsS63.grown (by repeat (first | (with_reducible first | exact HI0.out | apply IsS63.alloc | apply IsS63.drewN | apply IsS63.drew) | exact HI0.out)) hg (IsS63.own_ne HI0.out HO.out (by decide))); have n1_ := Aside0.mk (below_from_ HB.out hg (fun k_ e_ => HO.out.1 k_ e_)); have n3_ := Aside0.mk ho; clear HI0 HB HO; have HI0 := n0_; have HB := n1_; have HO := n3_; clear n0_ n1_ n3_ ho hb hg hat))
          go_roundg q
          case measure => omega
          case rel => exact ⟨i + 1, _, _, _, by go_num, by omega, by omega, ⟨vP_bd _ _ _, vK_bd _ _⟩, ⟨by have := HLN.out; rw [List.length_append, List.length_singleton]; omega⟩, ⟨by rw [List.append_assoc]; exact HX.out⟩, HO, HI0, HB⟩
        · rw [if_neg cp] at hcc'
          subst hcc'
          have cp1 : i % 2 = 1 := by omega
          clear hb0 hb1 cp
          go_wp2_with (first
            | (go_at_call 37; (with_reducible refine (voice_Coder_decode.calls g p k (vStepsL 89) (y % 16) (vP p (rd (vStepsL 89) k) (y % 16)) (vP p (rd (vStepsL 89) k) (y % 16)) (vK k (y % 16)) w1 _ ?side1 ?side2 HOK.out).mono ?_); (case side1 => repeat (first | (with_reducible first | exact HI0.out | apply IsS63.alloc | apply IsS63.drewN | apply IsS63.drew) | exact HI0.out)); (case side2 => repeat (first | (with_reducible first | exact HB.out | apply below_alloc | apply pw_below_drewN | apply below_drew1) | exact HB.out)); rintro e w18 ⟨rfl, hi, hb, hk⟩; have n0_ := Aside0.mk (Kd.R_mono (Kd.R_keep (IsS63.apart (show IsS63 w1 _ g p k (vStepsL 89) from by repeat (first | (with_reducible first | exact HI0.out | apply IsS63.alloc | apply IsS63.drewN | apply IsS63.drew) | exact HI0.out)) (by (with_reducible repeat (first | apply Kd.R_alloc | apply Kd.R_drewN | apply Kd.R_drew)); exact HO.out) (by decide)) hk (fun _ h => h.2)) (fun _ h => h.1)); have n2_ := Aside0.mk hb; have n3_ := Aside0.mk hi; clear HO HB HI0; have HO := n0_; have HB := n2_; have HI0 := n3_; clear n0_ n2_ n3_ hb hk hi)
            | (at_builtin; refine Kd.R_append (Kd.int .i64) w.heap.size rfl (.tmp 67) (.tmp 83) 26 3 (.int .i64 0) 8 rfl Try.underlying26 info3 rfl (by decide) (by omega) _ xs (vP p (rd (vStepsL 89) k) (y % 16)) [.int .i64 (vP p (rd (vStepsL 89) k) (y % 16))] (fun k => w1.heap.size ≤ k) (fun _ => False) rfl rfl ?aP (fun _ hk => hk.elim) ?aF ?aO (Below.refl _ _) ?aS ?aL ?_; (case aP => exact rfl); (case aF => intro k_ hk_; have := HB.out.size; omega); (case aO => exact (by (with_reducible repeat (first | apply Kd.R_alloc | apply Kd.R_drewN | apply Kd.R_drew)); exact HO.out)); (case aS => have := HB.out.size; have := HB2.out.size; omega); (case aL => have := HLX.out; omega); intro v129 w19 ho hb hg hat; have n0_ := Aside0.mk (IsS63.grown (by repeat (first | (with_reducible first | exact HI0.out | apply IsS63.alloc | apply IsS63.drewN | apply IsS63.drew) | exact HI0.out)) hg (IsS63.own_ne HI0.out HO.out (by decide))); have n1_ := Aside0.mk (below_from_ HB.out hg (fun k_ e_ => HO.out.1 k_ e_)); have n3_ := Aside0.mk ho; clear HI0 HB HO; have HI0 := n0_; have HB := n1_; have HO := n3_; clear n0_ n1_ n3_ ho hb hg hat))
          go_roundg q
          case measure => omega
          case rel => exact ⟨i + 1, _, _, _, by go_num, by omega, by omega, ⟨vP_bd _ _ _, vK_bd _ _⟩, ⟨by have := HLN.out; rw [List.length_append, List.length_singleton]; omega⟩, ⟨by rw [List.append_assoc]; exact HX.out⟩, HO, HI0, HB⟩
      · obtain rfl : i = x3 := by omega
        have hq : gk = 0 := by omega
        subst hq
        have HX1 := HX.out
        rw [vUn, List.append_nil] at HX1
        have cib : decide (i < i) = false := decide_eq_false (by omega)
        go_wp2
        go_ret2
        exact ⟨_, rfl, by rw [← HX1]; exact Kd.R_mono HO.out (fun _ _ => trivial), HB2.out.trans (HB.out.mono HB2.out.size)⟩
theorem voice_Unframe.calls (A0 : Option Addr) (c0 : Nat) (l0 : List Int) (r1 : List Int) (r2 : Int) (w : World) (hr0 : Kd.C (Kd.int .u8) w A0 l0.length l0) (hc0 : l0.length ≤ c0) (h : voice_Unframe.f l0 = some (r1, r2)) :
    Calls Try.prog 18 #[.slice A0 l0.length c0] w fun e w' => ∃ v0_ : Value, e = .returned (.tuple #[v0_, .int .i64 r2]) ∧ Kd.R (Kd.int .i64) 3 w' w.heap.size (fun _ => True) v0_ r1 ∧ Below w.heap.size w w' := by
  unfold voice_Unframe.f at h
  cases hy : vBytes l0 with
  | false => rw [if_neg (by rw [hy]; decide)] at h; cases h
  | true =>
    rw [if_pos hy] at h
    cases hv : vUnOk l0 with
    | false =>
      rw [if_neg (by rw [hv]; decide)] at h
      simp only [Option.some.injEq, Prod.mk.injEq] at h
      obtain ⟨rfl, rfl⟩ := h
      exact voice_Unframe.fails A0 c0 l0 w hr0 hc0 hy hv
    | true =>
      rw [if_pos hv] at h
      simp only [Option.some.injEq, Prod.mk.injEq] at h
      obtain ⟨rfl, rfl⟩ := h
      exact voice_Unframe.does A0 c0 l0 w hr0 hc0 hy hv

-- NOT PRINTED: function 38 (slices_Clone_int_int)

-- NOT PRINTED: function 19 (voice_player_put)

-- NOT PRINTED: function 20 (voice_player_lose)

end Go.Proofs.Ytcinmodpfdehpaa.P
