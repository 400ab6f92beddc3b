/- Files of sound, in plain Lean: what is read out of bytes, by the program and by the reference, and the levels. Conditions: the numbers are those of their kinds. -/
import Derived.Test.YtphkkdjinehhoaaGx2
import Derived.Test.YtphkkdjinehhoaaGx4
import Derived.Test.YtphkkdjinehhoaaGx5
import Derived.Test.YtphkkdjinehhoaaGx6
import Derived.Test.YtphkkdjinehhoaaGx7
import Derived.Test.YtphkkdjinehhoaaGx8
import Derived.Test.YtphkkdjinehhoaaHPure
namespace Go.Proofs.Ytphkkdjinehhoaa.Pure
open Go.RowKit Go.Proofs.Ytphkkdjinehhoaa.G Go.Proofs.YtphkkdjinehhoaaW.PrintWords Go.Proofs.YtphkkdjinehhoaaW.PrintLast Go.Proofs.YtphkkdjinehhoaaW.PrintMore Hand
set_option linter.unusedVariables false

theorem known2_ev : Ev (fun k => wireglasslaw25_known.f k) true := Ev.of (fun k => wireglasslaw25_known.mono k) (k := 20) (by decide +kernel)
theorem same2_from (l : List Int) (hl : l.length ≤ 9223372036854775807) : ∀ (d i : Nat), i + d = l.length → Ev (fun k => wireglassref02_SameInts.l0 k l l (i : Int)) true
  | 0, i, h => Ev.step (f := fun _ => some true) (fun k => by rw [wireglassref02_SameInts.l0, if_neg (by omega)]) (Ev.now _)
  | d + 1, i, h => Ev.step (f := fun k => wireglassref02_SameInts.l0 k l l ((i + 1 : Nat) : Int)) (fun k => by
      rw [wireglassref02_SameInts.l0, if_pos (by omega), if_pos (by omega), if_pos (by omega), if_pos rfl, w64 (by omega) (by omega)]; rfl) (same2_from l hl d (i + 1) (by omega))
theorem same2_ev (l : List Int) (hl : l.length ≤ 9223372036854775807) : Ev (fun k => wireglassref02_SameInts.f k l l) true := by
  unfold wireglassref02_SameInts.f
  exact Ev.if_pos rfl (same2_from l hl l.length 0 (by omega))
theorem wx (x : Int) (h0 : 0 ≤ x) (h1 : x < 18446744073709551616) : IntKind.u64.wrap x = x := by rw [IntKind.wrap_u64]; omega
theorem get_low2 (x y : Int) (h0 : 0 ≤ x) (h1 : x ≤ 255) (h2 : 0 ≤ y) (h3 : y ≤ 255) : wide_Get.f 3 [x, y] true = some (256 * y + x) := by
  have e1 : Go.bits .or .u64 (0 * 256) y = 256 * 0 + y := or_byte (by omega) (by omega) h2 (by omega)
  have e2 : Go.bits .or .u64 (y * 256) x = 256 * y + x := or_byte h2 (by omega) h0 (by omega)
  have z1 : wrap64 (wrap64 (2 - 1) - 0) = 1 := by decide +kernel
  have z2 : wrap64 (wrap64 (2 - 1) - 1) = 0 := by decide +kernel
  have v1 : wrap64 (0 + 1) = 1 := by decide +kernel
  have v2 : wrap64 (1 + 1) = 2 := by decide +kernel
  have r0 : rd [x, y] 0 = x := rfl
  have r1 : rd [x, y] 1 = y := rfl
  unfold wide_Get.f
  rw [show (([x, y] : List Int).length : Int) = 2 from rfl]
  rw [wide_Get.l0, if_pos (by decide), if_pos rfl, show (([x, y] : List Int).length : Int) = 2 from rfl, z1, if_pos (by decide), if_pos (by decide), r1, wx y h2 (by omega), wx (0 * 256) (by decide) (by decide), e1, v1]
  rw [show (256 : Int) * 0 + y = y by omega]
  rw [wide_Get.l0, if_pos (by decide), if_pos rfl, show (([x, y] : List Int).length : Int) = 2 from rfl, z2, if_pos (by decide), if_pos (by decide), r0, wx x h0 (by omega), wx (y * 256) (by omega) (by omega), e2, v2]
  rw [wide_Get.l0, if_neg (by decide)]
theorem get_low4 (a b c d : Int) (ha : 0 ≤ a ∧ a ≤ 255) (hb : 0 ≤ b ∧ b ≤ 255) (hc : 0 ≤ c ∧ c ≤ 255) (hd : 0 ≤ d ∧ d ≤ 255) : wide_Get.f 5 [a, b, c, d] true = some (a + 256 * b + 65536 * c + 16777216 * d) := by
  have e1 : Go.bits .or .u64 (0 * 256) d = 256 * 0 + d := or_byte (by omega) (by omega) hd.1 (by omega)
  have e2 : Go.bits .or .u64 (d * 256) c = 256 * d + c := or_byte hd.1 (by omega) hc.1 (by omega)
  have e3 : Go.bits .or .u64 ((256 * d + c) * 256) b = 256 * (256 * d + c) + b := or_byte (by omega) (by omega) hb.1 (by omega)
  have e4 : Go.bits .or .u64 ((256 * (256 * d + c) + b) * 256) a = 256 * (256 * (256 * d + c) + b) + a := or_byte (by omega) (by omega) ha.1 (by omega)
  have z1 : wrap64 (wrap64 (4 - 1) - 0) = 3 := by decide +kernel
  have z2 : wrap64 (wrap64 (4 - 1) - 1) = 2 := by decide +kernel
  have z3 : wrap64 (wrap64 (4 - 1) - 2) = 1 := by decide +kernel
  have z4 : wrap64 (wrap64 (4 - 1) - 3) = 0 := by decide +kernel
  have v1 : wrap64 (0 + 1) = 1 := by decide +kernel
  have v2 : wrap64 (1 + 1) = 2 := by decide +kernel
  have v3 : wrap64 (2 + 1) = 3 := by decide +kernel
  have v4 : wrap64 (3 + 1) = 4 := by decide +kernel
  have r0 : rd [a, b, c, d] 0 = a := rfl
  have r1 : rd [a, b, c, d] 1 = b := rfl
  have r2 : rd [a, b, c, d] 2 = c := rfl
  have r3 : rd [a, b, c, d] 3 = d := rfl
  have hl : (([a, b, c, d] : List Int).length : Int) = 4 := rfl
  unfold wide_Get.f
  rw [hl]
  rw [wide_Get.l0, if_pos (by decide), if_pos rfl, hl, z1, if_pos (by decide), if_pos (by decide), r3, wx d hd.1 (by omega), wx (0 * 256) (by decide) (by decide), e1, v1]
  rw [show (256 : Int) * 0 + d = d by omega]
  rw [wide_Get.l0, if_pos (by decide), if_pos rfl, hl, z2, if_pos (by decide), if_pos (by decide), r2, wx c hc.1 (by omega), wx (d * 256) (by omega) (by omega), e2, v2]
  rw [wide_Get.l0, if_pos (by decide), if_pos rfl, hl, z3, if_pos (by decide), if_pos (by decide), r1, wx b hb.1 (by omega), wx ((256 * d + c) * 256) (by omega) (by omega), e3, v3]
  rw [wide_Get.l0, if_pos (by decide), if_pos rfl, hl, z4, if_pos (by decide), if_pos (by decide), r0, wx a ha.1 (by omega), wx ((256 * (256 * d + c) + b) * 256) (by omega) (by omega), e4, v4]
  rw [wide_Get.l0, if_neg (by decide)]
  congr 1
  omega
theorem rd_nat {l : List Int} {i : Nat} (h : i < l.length) : rd l (i : Int) = l[i] := rd_at h
theorem cut_cons {l : List Int} {i j : Nat} (h : i < j) (hj : j ≤ l.length) : (l.take j).drop i = rd l (i : Int) :: (l.take j).drop (i + 1) := by
  rw [List.drop_eq_getElem_cons (by rw [List.length_take]; omega), List.getElem_take, rd_at (by omega)]
theorem cut_none {l : List Int} {j : Nat} : (l.take j).drop j = [] := List.drop_eq_nil_of_le (by rw [List.length_take]; omega)
theorem cut2 {l : List Int} {i : Nat} (h : i + 2 ≤ l.length) : (l.take (i + 2)).drop i = [rd l (i : Int), rd l ((i + 1 : Nat) : Int)] := by
  rw [cut_cons (by omega) h, cut_cons (by omega) h, cut_none]
theorem cut4 {l : List Int} (h : 28 ≤ l.length) : (l.take 28).drop 24 = [rd l 24, rd l 25, rd l 26, rd l 27] := by
  rw [cut_cons (by omega) h, cut_cons (by omega) h, cut_cons (by omega) h, cut_cons (by omega) h, cut_none]; rfl
/-- The sample whose bytes stand at i. -/
def sm (b : List Int) (i : Nat) : Int := if rd b (i : Int) + 256 * rd b ((i + 1 : Nat) : Int) > 32767 then rd b (i : Int) + 256 * rd b ((i + 1 : Nat) : Int) - 65536 else rd b (i : Int) + 256 * rd b ((i + 1 : Nat) : Int)
def sams (b : List Int) : Nat → Nat → List Int
  | 0, _ => []
  | m + 1, i => sm b i :: sams b m (i + 2)
def rat (b : List Int) : Int := rd b 24 + 256 * rd b 25 + 65536 * rd b 26 + 16777216 * rd b 27
/-- What is told of samples that were read out of b. -/
def fin (b out : List Int) : List Int × Int × Int :=
  match voice_Wave.f out (rat b) with
  | some (w, e) => if e = 0 then (if (strOfNums w).toList = (strOfNums b).toList then (out, rat b, 0) else ([], 0, 11)) else ([], 0, 11)
  | none => ([], 0, 11)
theorem wave_some (l : List Int) (r : Int) : ∃ w e, voice_Wave.f l r = some (w, e) := by
  unfold voice_Wave.f
  split
  · split <;> exact ⟨_, _, rfl⟩
  · exact ⟨_, _, rfl⟩
def Bytes (b : List Int) : Prop := ∀ x ∈ b, 0 ≤ x ∧ x ≤ 255
theorem rd_bytes {b : List Int} (h : Bytes b) (i : Nat) (hi : i < b.length) : 0 ≤ rd b (i : Int) ∧ rd b (i : Int) ≤ 255 := by rw [rd_at hi]; exact h _ (List.getElem_mem hi)
theorem i16w (x : Int) : IntKind.i16.wrap x = (x + 32768) % 65536 - 32768 := by
  simp [IntKind.wrap, IntKind.signed, IntKind.bits]
  split <;> omega
theorem voice_un (b : List Int) (hb : Bytes b) (hl : b.length ≤ 160044) (h28 : 28 ≤ b.length) : ∀ (m i : Nat) (xs : List Int), i + 2 * m = b.length → xs.length ≤ i → Ev (fun k => voice_Unwave.l0 k b xs (i : Int)) (fin b (xs ++ sams b m i))
  | 0, i, xs, h, hx => by
    obtain ⟨w, e, hw⟩ := wave_some xs (rat b)
    have g := Ev.of (fun k => wide_Get.mono [rd b 24, rd b 25, rd b 26, rd b 27] true k) (get_low4 _ _ _ _ (rd_bytes hb 24 (by omega)) (rd_bytes hb 25 (by omega)) (rd_bytes hb 26 (by omega)) (rd_bytes hb 27 (by omega)))
    have h24 : 0 ≤ rd b 24 ∧ rd b 24 ≤ 255 := rd_bytes hb 24 (by omega)
    have h25 : 0 ≤ rd b 25 ∧ rd b 25 ≤ 255 := rd_bytes hb 25 (by omega)
    have h26 : 0 ≤ rd b 26 ∧ rd b 26 ≤ 255 := rd_bytes hb 26 (by omega)
    have h27 : 0 ≤ rd b 27 ∧ rd b 27 ≤ 255 := rd_bytes hb 27 (by omega)
    have hr : wrap64 (rd b 24 + 256 * rd b 25 + 65536 * rd b 26 + 16777216 * rd b 27) = rat b := by rw [w64 (by omega) (by omega)]; rfl
    refine Ev.step (f := fun k => (wide_Get.f k [rd b 24, rd b 25, rd b 26, rd b 27] true).bind fun t => ((voice_Wave.f xs (wrap64 t)).bind fun bt => (if bt.2 = 0 then ((bytes_Equal.f bt.1 b).bind fun t2 => (if t2 = true then (some (xs, wrap64 t, 0)) else (some (([] : List Int), 0, 11)))) else (some (([] : List Int), 0, 11))))) (fun k => by
      rw [voice_Unwave.l0, if_neg (by omega), if_pos (by decide), if_pos (by omega), cut4 h28]) ?_
    refine Ev.bind g ?_
    rw [hr, hw]
    simp only [Option.bind_some]
    unfold fin
    rw [sams, List.append_nil, hw]
    simp only
    by_cases c : e = 0
    · refine Ev.if_pos c ?_
      rw [if_pos c]
      unfold bytes_Equal.f
      simp only [Option.bind_some]
      by_cases d : (strOfNums w).toList = (strOfNums b).toList
      · refine Ev.if_pos (by simpa using d) ?_; rw [if_pos d]; exact Ev.now _
      · refine Ev.if_neg (by simpa using d) ?_; rw [if_neg d]; exact Ev.now _
    · refine Ev.if_neg c ?_; rw [if_neg c]; exact Ev.now _
  | m + 1, i, xs, h, hx => by
    have b0 := rd_bytes hb i (by omega)
    have b1 := rd_bytes hb (i + 1) (by omega)
    have g := Ev.of (fun k => wide_Get.mono [rd b (i : Int), rd b ((i + 1 : Nat) : Int)] true k) (get_low2 _ _ b0.1 b0.2 b1.1 b1.2)
    have hi2 : wrap64 ((i : Int) + 2) = ((i + 2 : Nat) : Int) := by rw [w64 (by omega) (by omega)]; rfl
    have hs : wrap64 (IntKind.i16.wrap (256 * rd b ((i + 1 : Nat) : Int) + rd b (i : Int))) = sm b i := by
      rw [i16w, w64 (by omega) (by omega)]; unfold sm; split <;> omega
    refine Ev.step (f := fun k => (wide_Get.f k [rd b (i : Int), rd b ((i + 1 : Nat) : Int)] true).bind fun t => (if xs.length < 17592186044416 then (voice_Unwave.l0 k b (xs ++ [wrap64 (IntKind.i16.wrap t)]) ((i + 2 : Nat) : Int)) else (none))) (fun k => by
      rw [voice_Unwave.l0, if_pos (by omega), if_pos (by omega), hi2, if_pos (by omega), if_pos (by omega), Int.toNat_natCast, Int.toNat_natCast, cut2 (by omega)]) ?_
    refine Ev.bind g (Ev.if_pos (by omega) ?_)
    rw [hs, sams, show xs ++ sm b i :: sams b m (i + 2) = (xs ++ [sm b i]) ++ sams b m (i + 2) by simp]
    exact voice_un b hb hl h28 m (i + 2) (xs ++ [sm b i]) (by omega) (by rw [List.length_append, List.length_singleton]; omega)
theorem ref_un (b : List Int) (hb : Bytes b) (hl : b.length ≤ 160044) : ∀ (m i : Nat) (xs : List Int), i + 2 * m = b.length ∨ i + 2 * m + 1 = b.length → xs.length ≤ i → Ev (fun k => wireglassref25_Unwave.l0 k b (rat b) xs (i : Int)) (fin b (xs ++ sams b m i))
  | 0, i, xs, h, hx => by
    obtain ⟨w, e, hw⟩ := wave_some xs (rat b)
    have hi1 : wrap64 ((i : Int) + 1) = ((i + 1 : Nat) : Int) := by rw [w64 (by omega) (by omega)]; rfl
    refine Ev.step (f := fun k => (wireglassref25_Wave.f xs (rat b)).bind fun bt => (if bt.2 = 0 then (if (strOfNums bt.1).toList = (strOfNums b).toList then (some (xs, rat b, 0)) else (some (([] : List Int), 0, 11))) else (some (([] : List Int), 0, 11)))) (fun k => by
      rw [wireglassref25_Unwave.l0, hi1, if_neg (by omega)]) ?_
    unfold wireglassref25_Wave.f
    rw [hw]
    simp only [Option.bind_some]
    unfold fin
    rw [sams, List.append_nil, hw]
    simp only
    by_cases c : e = 0
    · refine Ev.if_pos c ?_
      rw [if_pos c]
      by_cases d : (strOfNums w).toList = (strOfNums b).toList
      · refine Ev.if_pos d ?_; rw [if_pos d]; exact Ev.now _
      · refine Ev.if_neg d ?_; rw [if_neg d]; exact Ev.now _
    · refine Ev.if_neg c ?_; rw [if_neg c]; exact Ev.now _
  | m + 1, i, xs, h, hx => by
    have b0 := rd_bytes hb i (by omega)
    have b1 := rd_bytes hb (i + 1) (by omega)
    have hi1 : wrap64 ((i : Int) + 1) = ((i + 1 : Nat) : Int) := by rw [w64 (by omega) (by omega)]; rfl
    have hi2 : wrap64 ((i : Int) + 2) = ((i + 2 : Nat) : Int) := by rw [w64 (by omega) (by omega)]; rfl
    obtain ⟨x, hx0⟩ : ∃ x, rd b (i : Int) = x := ⟨_, rfl⟩
    obtain ⟨y, hy0⟩ : ∃ y, rd b ((i + 1 : Nat) : Int) = y := ⟨_, rfl⟩
    have hs : sm b i = if x + 256 * y > 32767 then x + 256 * y - 65536 else x + 256 * y := by unfold sm; rw [hx0, hy0]
    rw [hx0] at b0
    rw [hy0] at b1
    have hv : wrap64 (wrap64 x + wrap64 (256 * wrap64 y)) = x + 256 * y := by
      rw [w64 (n := x) (by omega) (by omega), w64 (n := y) (by omega) (by omega), w64 (n := 256 * y) (by omega) (by omega), w64 (by omega) (by omega)]
    have hv2 : wrap64 (x + 256 * y - 65536) = x + 256 * y - 65536 := w64 (by omega) (by omega)
    refine Ev.step (f := fun k => if x + 256 * y > 32767 then (if xs.length < 17592186044416 then (wireglassref25_Unwave.l0 k b (rat b) (xs ++ [x + 256 * y - 65536]) ((i + 2 : Nat) : Int)) else (none)) else (if xs.length < 17592186044416 then (wireglassref25_Unwave.l0 k b (rat b) (xs ++ [x + 256 * y]) ((i + 2 : Nat) : Int)) else (none))) (fun k => by
      rw [wireglassref25_Unwave.l0, hi1, if_pos (by omega), if_pos (by omega), if_pos (by omega), if_pos (by omega), hx0, hy0, hv, hv2, hi2]) ?_
    have ih := ref_un b hb hl m (i + 2) (xs ++ [sm b i]) (by omega) (by rw [List.length_append, List.length_singleton]; omega)
    rw [List.append_assoc, List.singleton_append] at ih
    rw [sams]
    by_cases c : x + 256 * y > 32767
    · rw [hs, if_pos c] at ih ⊢
      exact Ev.if_pos c (Ev.if_pos (by omega) ih)
    · rw [hs, if_neg c] at ih ⊢
      exact Ev.if_neg c (Ev.if_pos (by omega) ih)
theorem ref_rat (b : List Int) (hb : Bytes b) (h : 28 ≤ b.length) : wrap64 ((wrap64 ((wrap64 ((wrap64 (rd b 24)) + (wrap64 (256 * (wrap64 (rd b 25)))))) + (wrap64 (65536 * (wrap64 (rd b 26)))))) + (wrap64 (16777216 * (wrap64 (rd b 27))))) = rat b := by
  have h24 : 0 ≤ rd b 24 ∧ rd b 24 ≤ 255 := rd_bytes hb 24 (by omega)
  have h25 : 0 ≤ rd b 25 ∧ rd b 25 ≤ 255 := rd_bytes hb 25 (by omega)
  have h26 : 0 ≤ rd b 26 ∧ rd b 26 ≤ 255 := rd_bytes hb 26 (by omega)
  have h27 : 0 ≤ rd b 27 ∧ rd b 27 ≤ 255 := rd_bytes hb 27 (by omega)
  unfold rat
  generalize rd b 24 = x at *
  generalize rd b 25 = y at *
  generalize rd b 26 = z at *
  generalize rd b 27 = u at *
  rw [w64 (n := x) (by omega) (by omega), w64 (n := y) (by omega) (by omega), w64 (n := z) (by omega) (by omega), w64 (n := u) (by omega) (by omega), w64 (n := 256 * y) (by omega) (by omega), w64 (n := 65536 * z) (by omega) (by omega), w64 (n := 16777216 * u) (by omega) (by omega), w64 (n := x + 256 * y) (by omega) (by omega), w64 (n := x + 256 * y + 65536 * z) (by omega) (by omega), w64 (by omega) (by omega)]
end Go.Proofs.Ytphkkdjinehhoaa.Pure
