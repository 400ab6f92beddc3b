/- Laid by a program of this repo over the translation: each Go function as a plain Lean function with the proof that the call comes to its answers, or a statement's row out of these; conditions: the hypotheses of each theorem. -/
import Derived.Test.YtphkkdjinehhoaaGx0
import Derived.Test.YtphkkdjinehhoaaGx1
import Derived.Test.YtphkkdjinehhoaaGx2
import Derived.Test.YtphkkdjinehhoaaGx3
namespace Go.Proofs.Ytphkkdjinehhoaa.G
open Go.RowKit Go.Proofs.YtphkkdjinehhoaaW.PrintWords Go.Proofs.YtphkkdjinehhoaaW.PrintLast Go.Proofs.YtphkkdjinehhoaaW.PrintMore
attribute [local go_sem] max2_int min2_int max_two min_two max_three min_three max_four min_four   -- for this text's walks alone
set_option linter.unusedVariables false
set_option linter.unusedSimpArgs false

/-! ### wireglassref02_SameInts: function 16 -/
def wireglassref02_SameInts.l0 : Nat → List Int → List Int → Int → Option (Bool)
  | 0, _, _, _ => none
  | k + 1, x0, x1, x5 => if x5 < (x0.length : Int) then (if 0 ≤ x5 then (if x5 < (x1.length : Int) then (if (rd x0 x5) = (rd x1 x5) then (wireglassref02_SameInts.l0 k x0 x1 (wrap64 (x5 + 1))) else (some false)) else (none)) else (none)) else (some true)
def wireglassref02_SameInts.f (k : Nat) (l0 : List Int) (l1 : List Int) : Option (Bool) := if (l0.length : Int) = (l1.length : Int) then (wireglassref02_SameInts.l0 k l0 l1 0) else (some false)
theorem wireglassref02_SameInts.mono_l : ∀ k, (∀ y0 y1 y2, LeO (wireglassref02_SameInts.l0 k y0 y1 y2) (wireglassref02_SameInts.l0 (k + 1) y0 y1 y2))
  | 0 => fun _ _ _ r h => by simp [wireglassref02_SameInts.l0] at h
  | k + 1 => by
    have ih0 := wireglassref02_SameInts.mono_l k
    · intro y0 y1 y2
      unfold wireglassref02_SameInts.l0
      repeat' first
      | (with_reducible exact ih0 _ _ _)
      | (with_reducible exact LeO.refl _)
      | (with_reducible exact LeO.none _)
      | (with_reducible refine LeO.ite ?_ ?_)
      | (with_reducible refine LeO.bind ?_ (fun _ => ?_))
      | exact ih0 _ _ _
      | exact LeO.none _
      | refine LeO.ite ?_ ?_
      | refine LeO.bind ?_ (fun _ => ?_)
theorem wireglassref02_SameInts.mono : ∀ a0 a1 k, LeO (wireglassref02_SameInts.f k a0 a1) (wireglassref02_SameInts.f (k + 1) a0 a1) := by
  intro a0 a1 k
  have ih0 := wireglassref02_SameInts.mono_l k
  unfold wireglassref02_SameInts.f
  repeat' first
      | (with_reducible exact ih0 _ _ _)
      | (with_reducible exact LeO.refl _)
      | (with_reducible exact LeO.none _)
      | (with_reducible refine LeO.ite ?_ ?_)
      | (with_reducible refine LeO.bind ?_ (fun _ => ?_))
      | exact ih0 _ _ _
      | exact LeO.none _
      | refine LeO.ite ?_ ?_
      | refine LeO.bind ?_ (fun _ => ?_)
set_option maxHeartbeats 8000000 in
set_option maxRecDepth 100000 in
theorem wireglassref02_SameInts.calls (k : Nat) (A0 : Option Addr) (c0 : Nat) (l0 : List Int) (A1 : Option Addr) (c1 : Nat) (l1 : List Int) (r : Bool) (w : World) (hr0 : Kd.C (Kd.int .i64) w A0 l0.length l0) (hc0 : l0.length ≤ c0) (hr1 : Kd.C (Kd.int .i64) w A1 l1.length l1) (hc1 : l1.length ≤ c1) (h : wireglassref02_SameInts.f k l0 l1 = some r) :
    Calls Try.prog 16 #[.slice A0 l0.length c0, .slice A1 l1.length c1] w fun e w' => e = .returned (.bool r) ∧ Drawn0 w w' := by
  have HR0 := Aside0.mk hr0
  have HC0 := Aside0.mk hc0
  clear hr0 hc0
  have HR1 := Aside0.mk hr1
  have HC1 := Aside0.mk hc1
  clear hr1 hc1
  have H : (if (l0.length : Int) = (l1.length : Int) then (wireglassref02_SameInts.l0 k l0 l1 0) else (some false)) = some r := h
  clear h
  by_cases c3 : (l0.length : Int) = (l1.length : Int)
  · rw [if_pos c3] at H
    have c3b0 : ((l0.length : Int) == (l1.length : Int)) = true := beq_iff_eq.mpr c3
    have c3b1 : ((l0.length : Int) != (l1.length : Int)) = false := bne_eq_false_iff_eq.mpr c3
    have c3b2 : (l0.length == l1.length) = true := by first | simpa using c3 | (simp at c3 ⊢; omega)
    clear c3
    have H' := Aside0.mk H
    clear H
    go_enter Try.func16, Try.ntmps16
    go_wp2
    repeat (go_quiet (fail); try go_wp2)
    go_loopg [5] k (fun kq v5 w' => ∃ (x5_1 : Int), v5 = .int .i64 x5_1 ∧ Aside0 (wireglassref02_SameInts.l0 kq l0 l1 x5_1 = some r) ∧ Aside0 (kq ≤ k) ∧ Drawn0 w w')
    case atStart => exact ⟨(0), (by first | rfl | (simp; done) | (simp [*]; done)), H', ⟨Nat.le_refl _⟩, by repeat (first | exact Drawn0.refl _ | apply Drawn0.step)⟩
    case round =>
      clear H'
      try clear c1
      try clear p2
      try clear c3
      try clear c3b0
      try clear c3b1
      try clear c3b2
      obtain ⟨x5_1, rfl, HA, HK1, ⟨m1, rfl⟩⟩ := hrel
      cases gk with
      | zero => exact absurd HA.out (by simp [wireglassref02_SameInts.l0])
      | succ k1 =>
        have H := HA.out
        clear HA
        simp only [wireglassref02_SameInts.l0] at H
        by_cases c4 : x5_1 < (l0.length : Int)
        · rw [if_pos c4] at H
          have c4b0 : decide (x5_1 < (l0.length : Int)) = true := decide_eq_true c4
          clear c4
          by_cases c5 : 0 ≤ x5_1
          · rw [if_pos c5] at H
            have c5b0 : decide (0 ≤ x5_1) = true := decide_eq_true c5
            clear c5
            by_cases c6 : x5_1 < (l1.length : Int)
            · rw [if_pos c6] at H
              have c6b0 : decide (x5_1 < (l1.length : Int)) = true := decide_eq_true c6
              clear c6
              by_cases c7 : (rd l0 x5_1) = (rd l1 x5_1)
              · rw [if_pos c7] at H
                have c7b0 : ((rd l0 x5_1) == (rd l1 x5_1)) = true := beq_iff_eq.mpr c7
                have c7b1 : ((rd l0 x5_1) != (rd l1 x5_1)) = false := bne_eq_false_iff_eq.mpr c7
                clear c7
                have H' := Aside0.mk H
                clear H
                have p175 : 0 ≤ (x5_1 : Int) := of_decide_eq_true (by first | (with_reducible assumption) | assumption)
                have q175 : x5_1 < (l0.length : Int) := of_decide_eq_true (by first | (with_reducible assumption) | assumption)
                obtain ⟨ad175, e175, hx175_0⟩ := Kd.at_int HR0.out x5_1 p175 q175
                cases e175
                replace p175 := eq_true p175
                replace q175 := eq_true q175
                have p176 : 0 ≤ (x5_1 : Int) := of_decide_eq_true (by first | (with_reducible assumption) | assumption)
                have q176 : x5_1 < (l1.length : Int) := of_decide_eq_true (by first | (with_reducible assumption) | assumption)
                obtain ⟨ad176, e176, hx176_0⟩ := Kd.at_int HR1.out x5_1 p176 q176
                cases e176
                replace p176 := eq_true p176
                replace q176 := eq_true q176
                go_wp2
                repeat (go_quiet (fail); try go_wp2)
                go_roundg k1
                case measure => have := HK1.out; omega
                case rel => exact ⟨(wrap64 (x5_1 + 1)), (by first | rfl | (simp; done) | (simp [*]; done)), H', ⟨by have := HK1.out; omega⟩, by repeat (first | exact Drawn0.refl _ | apply Drawn0.step)⟩
              · rw [if_neg c7] at H
                have c7b0 : ((rd l0 x5_1) == (rd l1 x5_1)) = false := beq_eq_false_iff_ne.mpr c7
                have c7b1 : ((rd l0 x5_1) != (rd l1 x5_1)) = true := bne_iff_ne.mpr c7
                obtain rfl := Option.some.inj H
                have p175 : 0 ≤ (x5_1 : Int) := of_decide_eq_true (by first | (with_reducible assumption) | assumption)
                have q175 : x5_1 < (l0.length : Int) := of_decide_eq_true (by first | (with_reducible assumption) | assumption)
                obtain ⟨ad175, e175, hx175_0⟩ := Kd.at_int HR0.out x5_1 p175 q175
                cases e175
                replace p175 := eq_true p175
                replace q175 := eq_true q175
                have p176 : 0 ≤ (x5_1 : Int) := of_decide_eq_true (by first | (with_reducible assumption) | assumption)
                have q176 : x5_1 < (l1.length : Int) := of_decide_eq_true (by first | (with_reducible assumption) | assumption)
                obtain ⟨ad176, e176, hx176_0⟩ := Kd.at_int HR1.out x5_1 p176 q176
                cases e176
                replace p176 := eq_true p176
                replace q176 := eq_true q176
                go_wp2
                repeat (go_quiet (fail); try go_wp2)
                go_ret
                exact ⟨by first | rfl | (simp; done) | (simp [*]; done), by repeat (first | exact Drawn0.refl _ | apply Drawn0.step)⟩
            · rw [if_neg c6] at H
              exact absurd H (by simp)
          · rw [if_neg c5] at H
            exact absurd H (by simp)
        · rw [if_neg c4] at H
          have c4b0 : decide (x5_1 < (l0.length : Int)) = false := decide_eq_false c4
          clear c4
          obtain rfl := Option.some.inj H
          go_wp2
          repeat (go_quiet (fail); try go_wp2)
          go_ret
          exact ⟨by first | rfl | (simp; done) | (simp [*]; done), by repeat (first | exact Drawn0.refl _ | apply Drawn0.step)⟩
  · rw [if_neg c3] at H
    have c3b0 : ((l0.length : Int) == (l1.length : Int)) = false := beq_eq_false_iff_ne.mpr c3
    have c3b1 : ((l0.length : Int) != (l1.length : Int)) = true := bne_iff_ne.mpr c3
    have c3b2 : (l0.length == l1.length) = false := by first | simpa using c3 | (simp at c3 ⊢; omega)
    obtain rfl := Option.some.inj H
    go_enter Try.func16, Try.ntmps16
    go_wp2
    repeat (go_quiet (fail); try go_wp2)
    go_ret
    exact ⟨by first | rfl | (simp; done) | (simp [*]; done), by repeat (first | exact Drawn0.refl _ | apply Drawn0.step)⟩

/-! ### wireglasslaw25_VoiceCodes: function 3 -/
-- EXT rounds=0 making=1
-- STATE voice.Coder
-- STATE wireglassref25.Coder
/-! Two coders at once: each stands in a block of its own; its steps lie in an elder block. -/
def restrict (W : World) (n : Nat) : World := { W with heap := W.heap.extract 0 n }
theorem restrict_size {W : World} {n : Nat} (h : n ≤ W.heap.size) : (restrict W n).heap.size = n := by simp [restrict, h]
theorem restrict_get {W : World} {n i : Nat} (h : i < n) : (restrict W n).heap[i]? = W.heap[i]? := by
  simp only [restrict, Array.getElem?_extract]
  by_cases c : i < W.heap.size
  · rw [if_pos (by omega)]; simp
  · rw [if_neg (by omega), Array.getElem?_eq_none (by omega)]
theorem restrict_below {W : World} {n : Nat} (h : n ≤ W.heap.size) : Below n (restrict W n) W := ⟨rfl, rfl, rfl, by rw [restrict_size h]; exact h, fun k hk => (restrict_get hk).symm⟩
theorem cell_block {w w' : World} {a : Addr} (hs : a.spot = none) (h : w'.heap[a.block]? = w.heap[a.block]?) : w'.cell? a = w.cell? a := by simp [World.cell?, h]
theorem C_block {k : IntKind} {w w' : World} {A : Option Addr} {n : Nat} {xs : List Int} (h : Kd.C (Kd.int k) w A n xs) (hb : ∀ ad, A = some ad → w'.heap[ad.block]? = w.heap[ad.block]?) : Kd.C (Kd.int k) w' A n xs := by
  refine ⟨h.1, h.2.1, fun hn => ?_⟩
  obtain ⟨ad, e, hc⟩ := h.2.2 hn
  refine ⟨ad, e, fun j p hj => ?_⟩
  obtain ⟨c, hs, hr, hcell⟩ := hc j p hj
  refine ⟨c, hs, hr, fun i u hu => ?_⟩
  rw [← hcell i u hu]
  have hblk : w'.heap[(ad.add (j * (Kd.int k).sz + i)).block]? = w.heap[(ad.add (j * (Kd.int k).sz + i)).block]? := by rw [add_block]; exact hb ad e
  simp [World.cell?, hblk]
theorem C_not3 {W : World} {ad : Addr} {xs : List Int} {g : Nat} {a b c : Value} {t : TypeId} {f : Nat × Nat} (h : Kd.C (Kd.int .i64) W (some ad) xs.length xs) (hn : 10 ≤ xs.length) (hg : W.heap[g]? = some (.cells #[a, b, c] t f)) : ad.block ≠ g := by
  intro e
  subst e
  obtain ⟨ad', e, h1⟩ := Kd.at_int h 9 (by omega) (by omega)
  cases e
  have hz : (⟨ad.block, ad.off + 9, none⟩ : Addr) = ad.add 9 := by simp [Addr.add]
  simp only [Int.reduceToNat] at h1
  rw [← hz] at h1
  simp [World.cell?, hg] at h1
/-- A coder at block g (type T), at p and k. -/
def StA (T : TypeId) (W : World) (g : Nat) (p k : Int) : Prop := ∃ A c, W.heap[g]? = some (.cells #[.int .i64 p, .int .i64 k, .slice A (vStepsL 89).length c] T (0, 0)) ∧ Kd.C (Kd.int .i64) W A (vStepsL 89).length (vStepsL 89) ∧ ∀ ad, A = some ad → ad.block < g
theorem StA.lt {T : TypeId} {W : World} {g : Nat} {p k : Int} (h : StA T W g p k) : g < W.heap.size := by obtain ⟨A, c, hg, _⟩ := h; exact blk_lt hg
theorem StA.ne {T T' : TypeId} {W : World} {g g' : Nat} {p k p' k' : Int} (h : StA T W g p k) (h' : StA T' W g' p' k') (ht : T ≠ T') : g' ≠ g := by
  intro e
  subst e
  obtain ⟨A, c, hg, _⟩ := h
  obtain ⟨A', c', hg', _⟩ := h'
  rw [hg] at hg'
  simp only [Option.some.injEq, Obj.cells.injEq] at hg'
  exact ht hg'.2.1
theorem StA.other {T T' : TypeId} {W W1 : World} {g g' : Nat} {p k p' k' : Int} (h : StA T W g p k) (h' : StA T' W g' p' k') (hk : KeepBut W W1 g none) (hne : g' ≠ g) : StA T' W1 g' p' k' := by
  obtain ⟨A, c, hg, hc, hl⟩ := h'
  obtain ⟨A0, c0, hg0, _⟩ := h
  refine ⟨A, c, (hk.2 g' (blk_lt hg) hne (by simp)).trans hg, C_block hc (fun ad e => ?_), hl⟩
  subst e
  have h9 := C_not3 hc (by rw [vStepsL_length]; omega) hg0
  have := hl ad rfl
  exact hk.2 ad.block (by have := blk_lt hg; omega) h9 (by simp)
theorem below_other {w W W1 : World} {g : Nat} (hw : Below w.heap.size w W) (hl : g ≤ W.heap.size) (hge : w.heap.size ≤ g) (hb : Below g (restrict W g) W1) (hk : KeepBut W W1 g none) : Below w.heap.size w W1 :=
  ⟨hb.os.trans hw.os, hb.tape.trans hw.tape, hb.output.trans hw.output, Nat.le_trans hw.size hk.1, fun k hk' => (hb.block k (by omega)).trans ((restrict_get (by omega)).trans (hw.block k hk'))⟩
theorem StA.to51 {W : World} {g : Nat} {p k : Int} (h : StA 51 W g p k) : IsS51 (restrict W g) W g p k (vStepsL 89) ∧ Below (restrict W g).heap.size (restrict W g) W := by
  have hlt := h.lt
  obtain ⟨A, c, hg, hc, hl⟩ := h
  have hs := restrict_size (W := W) (n := g) (by omega)
  exact ⟨⟨A, c, hg, by omega, C_block hc (fun ad e => restrict_get (hl ad e))⟩, by rw [hs]; exact restrict_below (by omega)⟩
theorem StA.of51 {w0 W : World} {g : Nat} {p k : Int} (h : IsS51 w0 W g p k (vStepsL 89)) (hb : Below w0.heap.size w0 W) : StA 51 W g p k := by
  obtain ⟨A, c, hg, hl, hc⟩ := h
  exact ⟨A, c, hg, Kd.C_below hc hb, fun ad e => by subst e; have := Kd.C_lt hc (by rw [vStepsL_length]; omega) (by decide); omega⟩
theorem StA.to53 {W : World} {g : Nat} {p k : Int} (h : StA 53 W g p k) : IsS53 (restrict W g) W g p k (vStepsL 89) ∧ Below (restrict W g).heap.size (restrict W g) W := by
  have hlt := h.lt
  obtain ⟨A, c, hg, hc, hl⟩ := h
  have hs := restrict_size (W := W) (n := g) (by omega)
  exact ⟨⟨A, c, hg, by omega, C_block hc (fun ad e => restrict_get (hl ad e))⟩, by rw [hs]; exact restrict_below (by omega)⟩
theorem StA.of53 {w0 W : World} {g : Nat} {p k : Int} (h : IsS53 w0 W g p k (vStepsL 89)) (hb : Below w0.heap.size w0 W) : StA 53 W g p k := by
  obtain ⟨A, c, hg, hl, hc⟩ := h
  exact ⟨A, c, hg, Kd.C_below hc hb, fun ad e => by subst e; have := Kd.C_lt hc (by rw [vStepsL_length]; omega) (by decide); omega⟩
theorem StA.below {T : TypeId} {W W1 : World} {g : Nat} {p k : Int} (h : StA T W g p k) (hb : Below W.heap.size W W1) : StA T W1 g p k := by
  obtain ⟨A, c, hg, hc, hl⟩ := h
  exact ⟨A, c, blk_below hg hb, Kd.C_below hc hb, hl⟩
/-- A call on the one coder: both stand then. -/
theorem step51 {w W W1 : World} {g g' : Nat} {p k q o p1 k1 : Int} (h1 : StA 51 W g p k) (h2 : StA 53 W g' q o) (hw : Below w.heap.size w W) (hge : w.heap.size ≤ g)
    (hi : IsS51 (restrict W g) W1 g p1 k1 (vStepsL 89)) (hb : Below (restrict W g).heap.size (restrict W g) W1) (hk : KeepBut W W1 g none) : StA 51 W1 g p1 k1 ∧ StA 53 W1 g' q o ∧ Below w.heap.size w W1 := by
  have hlt := h1.lt
  refine ⟨StA.of51 hi hb, StA.other h1 h2 hk (StA.ne h1 h2 (by decide)), below_other hw (by omega) hge ?_ hk⟩
  rw [restrict_size (by omega)] at hb; exact hb
theorem step53 {w W W1 : World} {g g' : Nat} {p k q o q1 o1 : Int} (h1 : StA 51 W g p k) (h2 : StA 53 W g' q o) (hw : Below w.heap.size w W) (hge : w.heap.size ≤ g')
    (hi : IsS53 (restrict W g') W1 g' q1 o1 (vStepsL 89)) (hb : Below (restrict W g').heap.size (restrict W g') W1) (hk : KeepBut W W1 g' none) : StA 51 W1 g p k ∧ StA 53 W1 g' q1 o1 ∧ Below w.heap.size w W1 := by
  have hlt := h2.lt
  refine ⟨StA.other h2 h1 hk (StA.ne h2 h1 (by decide)), StA.of53 hi hb, below_other hw (by omega) hge ?_ hk⟩
  rw [restrict_size (by omega)] at hb; exact hb
theorem codes_same {p k : Int} (x : Int) (hk0 : 0 ≤ k) (hk1 : k ≤ 88) (hp0 : -32768 ≤ p) (hp1 : p ≤ 32767) :
    ∃ n e q o : Int, voice_Coder_Code.f 6 p k (vStepsL 89) x = some (n, e, q, o) ∧ wireglassref25_Coder_Code.f 2 p k (vStepsL 89) x = some (n, e, q, o) ∧ (-32768 ≤ q ∧ q ≤ 32767) ∧ 0 ≤ o ∧ o ≤ 88 := by
  cases hx : vIn x with
  | true => exact ⟨_, _, _, _, vCode_is hk0 hk1 hp0 hp1 hx, rCodeE_is hk0 hk1 hp0 hp1 hx, (vCoded_bd p k x).2⟩
  | false => exact ⟨_, _, _, _, vCode_none hx, rCodeE_none hx, ⟨hp0, hp1⟩, hk0, hk1⟩
theorem decodes_same {p k : Int} (x : Int) (hk0 : 0 ≤ k) (hk1 : k ≤ 88) (hp0 : -32768 ≤ p) (hp1 : p ≤ 32767) :
    ∃ n e q o : Int, voice_Coder_Decode.f p k (vStepsL 89) x = some (n, e, q, o) ∧ wireglassref25_Coder_Decode.f p k (vStepsL 89) x = some (n, e, q, o) ∧ (-32768 ≤ q ∧ q ≤ 32767) ∧ 0 ≤ o ∧ o ≤ 88 := by
  unfold voice_Coder_Decode.f wireglassref25_Coder_Decode.f
  by_cases c1 : x < 0
  · rw [if_pos c1, if_pos c1]; exact ⟨_, _, _, _, rfl, rfl, ⟨hp0, hp1⟩, hk0, hk1⟩
  rw [if_neg c1, if_neg c1]
  by_cases c2 : x > 15
  · rw [if_pos c2, if_pos c2]; exact ⟨_, _, _, _, rfl, rfl, ⟨hp0, hp1⟩, hk0, hk1⟩
  rw [if_neg c2, if_neg c2]
  unfold voice_Coder_decode.f wireglassref25_Coder_decode.f
  rw [if_pos (vOk_steps hk0 hk1 (by omega) (by omega) hp0 hp1)]
  exact ⟨_, _, _, _, rfl, rfl, vP_bd _ _ _, vK_bd _ _⟩
theorem stepsSame_known : wireglassref02_SameInts.f 100 (vStepsL 89) (vStepsL 89) = some true := by decide +kernel
theorem codes_known : wireglasslaw25_known.f 20 = some true := by decide +kernel
def wireglasslaw25_VoiceCodes.f (l0 : List Int) : Option (Bool) := some true
set_option maxHeartbeats 8000000 in
set_option maxRecDepth 100000 in
theorem wireglasslaw25_VoiceCodes.calls (A0 : Option Addr) (c0 : Nat) (l0 : List Int) (r : Bool) (w : World) (hr0 : Kd.C (Kd.int .i64) w A0 l0.length l0) (hc0 : l0.length ≤ c0) (h : wireglasslaw25_VoiceCodes.f l0 = some r) :
    Calls Try.prog 3 #[.slice A0 l0.length c0] w fun e w' => e = .returned (.bool r) ∧ Below w.heap.size w w' := by
  have hm := Kd.C_max hr0
  have HR0 := Aside0.mk hr0
  have HC0 := Aside0.mk hc0
  obtain rfl := Option.some.inj h
  clear hr0 hc0 h
  by_cases c1 : 40000 < (l0.length : Int)
  · have c1b0 : decide (40000 < (l0.length : Int)) = true := decide_eq_true c1
    have c1b1 : decide (40000 < l0.length) = true := decide_eq_true (by omega)
    clear c1
    go_enter Try.func3, Try.ntmps3
    go_wp2_with (go_at_call 7; (with_reducible refine (wireglasslaw25_known.calls 20 true _ codes_known).mono ?_); rintro e w1 ⟨rfl, hb⟩; have HB := Aside0.mk hb; clear hb)
    go_ret
    exact ⟨rfl, HB.out⟩
  have c1b0 : decide (40000 < (l0.length : Int)) = false := decide_eq_false c1
  have c1b1 : decide (40000 < l0.length) = false := decide_eq_false (by omega)
  clear c1
  go_enter Try.func3, Try.ntmps3
  go_wp2_with (first
    | (go_at_call 8; (with_reducible refine (voice_NewCoder.calls _).mono ?_); rintro e w2 ⟨g, w1, rfl, hI, hb, hb2⟩; have H1 := Aside0.mk (StA.of51 hI hb); have HB := Aside0.mk (hb2.trans (hb.mono hb2.size)); have HG := Aside0.mk (Nat.le_trans hb2.size (IsS51.ge hI)); clear hI hb hb2)
    | (go_at_call 9; (with_reducible refine (wireglassref25_NewCoder.calls _).mono ?_); rintro e w4 ⟨g', w3, rfl, hI, hb, hb2⟩; have hb3 := hb2.trans (hb.mono hb2.size); have HG2 := Aside0.mk (Nat.le_trans HB.out.size (Nat.le_trans hb2.size (IsS53.ge hI))); have n1_ := Aside0.mk (H1.out.below hb3); have H2 := Aside0.mk (StA.of53 hI hb); have n3_ := Aside0.mk (HB.out.trans (hb3.mono HB.out.size)); clear H1 HB hI hb hb2 hb3; have H1 := n1_; have HB := n3_; clear n1_ n3_))
  go_loopg [5] l0.length (fun kq v5 W => ∃ i p k : Int, v5 = .int .i64 i ∧ 0 ≤ i ∧ i ≤ l0.length ∧ i + kq = l0.length ∧ Aside0 ((-32768 ≤ p ∧ p ≤ 32767) ∧ 0 ≤ k ∧ k ≤ 88) ∧ Aside0 (StA 51 W g p k) ∧ Aside0 (StA 53 W g' p k) ∧ Aside0 (Below w.heap.size w W))
  case atStart => exact ⟨0, 0, 0, rfl, by omega, by omega, by omega, ⟨by omega⟩, H1, H2, HB⟩
  case round =>
    clear H1 H2 HB
    obtain ⟨i, p, k, rfl, hi0, hi1, hik, HD, H1, H2, HB⟩ := hrel
    by_cases ci : i < (l0.length : Int)
    · obtain ⟨q, rfl⟩ : ∃ q, gk = q + 1 := ⟨gk - 1, by omega⟩
      have cib : decide (i < (l0.length : Int)) = true := decide_eq_true ci
      obtain ⟨ad, e, hx⟩ := Kd.at_int HR0.out i hi0 ci
      cases e
      have HX := Aside0.mk hx
      replace hx := pw_cell_below HB.out hx
      obtain ⟨x, ex⟩ : ∃ x, rd l0 i = x := ⟨_, rfl⟩
      rw [ex] at hx HX
      clear ex
      by_cases par : i % 2 = 0
      · obtain ⟨n, e, p1, k1, ha, hb, hbd⟩ := codes_same x HD.out.2.1 HD.out.2.2 HD.out.1.1 HD.out.1.2
        have HA := Aside0.mk ha
        have HB2 := Aside0.mk hb
        have HD1 := Aside0.mk hbd
        clear ha hb hbd
        go_wp2_with (first
          | (go_at_call 10; (with_reducible refine (voice_Coder_Code.calls 6 g p k (vStepsL 89) x n e p1 k1 (restrict _ g) _ (StA.to51 H1.out).1 (StA.to51 H1.out).2 HA.out).mono ?_); rintro e w5 ⟨rfl, hi, hb, hk⟩; have nn := step51 H1.out H2.out HB.out HG.out hi hb hk; clear H1 H2 HB hx hi hb hk; have H1 := Aside0.mk nn.1; have H2 := Aside0.mk nn.2.1; have HB := Aside0.mk nn.2.2; clear nn; have hx := pw_cell_below HB.out HX.out)
          | (go_at_call 11; (with_reducible refine (wireglassref25_Coder_Code.calls 2 g' p k (vStepsL 89) x n e p1 k1 (restrict _ g') _ (StA.to53 H2.out).1 (StA.to53 H2.out).2 HB2.out).mono ?_); rintro e w6 ⟨rfl, hi, hb, hk⟩; have nn := step53 H1.out H2.out HB.out HG2.out hi hb hk; clear H1 H2 HB hx hi hb hk; have H1 := Aside0.mk nn.1; have H2 := Aside0.mk nn.2.1; have HB := Aside0.mk nn.2.2; clear nn)
          | (go_at_call 14; (with_reducible refine (voice_Coder_State.calls g p1 k1 (vStepsL 89) p1 k1 p1 k1 (restrict _ g) _ (StA.to51 H1.out).1 (StA.to51 H1.out).2 rfl).mono ?_); rintro e w7 ⟨rfl, hi, hb, hk⟩; have nn := step51 H1.out H2.out HB.out HG.out hi hb hk; clear H1 H2 HB hi hb hk; have H1 := Aside0.mk nn.1; have H2 := Aside0.mk nn.2.1; have HB := Aside0.mk nn.2.2; clear nn)
          | (go_at_call 15; (with_reducible refine (wireglassref25_Coder_State.calls g' p1 k1 (vStepsL 89) p1 k1 p1 k1 (restrict _ g') _ (StA.to53 H2.out).1 (StA.to53 H2.out).2 rfl).mono ?_); rintro e w8 ⟨rfl, hi, hb, hk⟩; have nn := step53 H1.out H2.out HB.out HG2.out hi hb hk; clear H1 H2 HB hi hb hk; have H1 := Aside0.mk nn.1; have H2 := Aside0.mk nn.2.1; have HB := Aside0.mk nn.2.2; clear nn))
        go_roundg q
        case measure => omega
        case rel => exact ⟨i + 1, p1, k1, by go_num, by omega, by omega, by omega, HD1, H1, H2, HB⟩
      · have par1 : i % 2 = 1 := by omega
        clear par
        obtain ⟨n, e, p1, k1, ha, hb, hbd⟩ := decodes_same x HD.out.2.1 HD.out.2.2 HD.out.1.1 HD.out.1.2
        have HA := Aside0.mk ha
        have HB2 := Aside0.mk hb
        have HD1 := Aside0.mk hbd
        clear ha hb hbd
        go_wp2_with (first
          | (go_at_call 12; (with_reducible refine (voice_Coder_Decode.calls g p k (vStepsL 89) x n e p1 k1 (restrict _ g) _ (StA.to51 H1.out).1 (StA.to51 H1.out).2 HA.out).mono ?_); rintro e w5 ⟨rfl, hi, hb, hk⟩; have nn := step51 H1.out H2.out HB.out HG.out hi hb hk; clear H1 H2 HB hx hi hb hk; have H1 := Aside0.mk nn.1; have H2 := Aside0.mk nn.2.1; have HB := Aside0.mk nn.2.2; clear nn; have hx := pw_cell_below HB.out HX.out)
          | (go_at_call 13; (with_reducible refine (wireglassref25_Coder_Decode.calls g' p k (vStepsL 89) x n e p1 k1 (restrict _ g') _ (StA.to53 H2.out).1 (StA.to53 H2.out).2 HB2.out).mono ?_); rintro e w6 ⟨rfl, hi, hb, hk⟩; have nn := step53 H1.out H2.out HB.out HG2.out hi hb hk; clear H1 H2 HB hx hi hb hk; have H1 := Aside0.mk nn.1; have H2 := Aside0.mk nn.2.1; have HB := Aside0.mk nn.2.2; clear nn)
          | (go_at_call 14; (with_reducible refine (voice_Coder_State.calls g p1 k1 (vStepsL 89) p1 k1 p1 k1 (restrict _ g) _ (StA.to51 H1.out).1 (StA.to51 H1.out).2 rfl).mono ?_); rintro e w7 ⟨rfl, hi, hb, hk⟩; have nn := step51 H1.out H2.out HB.out HG.out hi hb hk; clear H1 H2 HB hi hb hk; have H1 := Aside0.mk nn.1; have H2 := Aside0.mk nn.2.1; have HB := Aside0.mk nn.2.2; clear nn)
          | (go_at_call 15; (with_reducible refine (wireglassref25_Coder_State.calls g' p1 k1 (vStepsL 89) p1 k1 p1 k1 (restrict _ g') _ (StA.to53 H2.out).1 (StA.to53 H2.out).2 rfl).mono ?_); rintro e w8 ⟨rfl, hi, hb, hk⟩; have nn := step53 H1.out H2.out HB.out HG2.out hi hb hk; clear H1 H2 HB hi hb hk; have H1 := Aside0.mk nn.1; have H2 := Aside0.mk nn.2.1; have HB := Aside0.mk nn.2.2; clear nn))
        go_roundg q
        case measure => omega
        case rel => exact ⟨i + 1, p1, k1, by go_num, by omega, by omega, by omega, HD1, H1, H2, HB⟩
    · have cib : decide (i < (l0.length : Int)) = false := decide_eq_false ci
      clear H1 H2
      go_wp2_with (first
        | (go_at_call 17; (with_reducible refine (voice_Steps.calls (vStepsL 89) _ rfl).mono ?_); rintro e w5 ⟨v, rfl, ho, hb⟩; have HO1 := Aside0.mk ho; have n1_ := Aside0.mk (HB.out.trans (hb.mono HB.out.size)); clear HB ho hb; have HB := n1_; clear n1_)
        | (go_at_call 18; (with_reducible refine (wireglassref25_Steps.calls 100 (vStepsL 89) _ rSteps_known).mono ?_); rintro e w6 ⟨v2, rfl, ho, hb⟩; have hO1 := Kd.R_below HO1.out hb; obtain ⟨A1, d1, e1, hq1, hc1⟩ := Kd.R_reads hO1; obtain ⟨A2, d2, e2, hq2, hc2⟩ := Kd.R_reads ho; subst e1; subst e2; have HC1 := Aside0.mk hc1; have HC2 := Aside0.mk hc2; have HQ1 := Aside0.mk hq1; have HQ2 := Aside0.mk hq2; have n1_ := Aside0.mk (HB.out.trans (hb.mono HB.out.size)); clear HB ho hb hO1 hc1 hc2 hq1 hq2 HO1; have HB := n1_; clear n1_)
        | (go_at_call 16; (with_reducible refine (wireglassref02_SameInts.calls 100 A1 d1 (vStepsL 89) A2 d2 (vStepsL 89) true _ HC1.out HQ1.out HC2.out HQ2.out stepsSame_known).mono ?_); rintro e w7 ⟨rfl, ⟨nd, rfl⟩⟩)
        | (go_at_call 7; (with_reducible refine (wireglasslaw25_known.calls 20 true _ codes_known).mono ?_); rintro e w8 ⟨rfl, hb⟩; have n1_ := Aside0.mk ((pw_below_drewN HB.out nd).trans (hb.mono HB.out.size)); clear HB hb; have HB := n1_; clear n1_))
      go_ret
      exact ⟨rfl, by repeat (first | exact HB.out | apply pw_below_drewN | apply below_drew1)⟩
def wireglasslaw25_VoiceCodes.Pure : Prop := ∀ (l0 : List Int), l0.length ≤ maxLen → l0.length * 8 ≤ 140737488351232 → (∀ x ∈ l0, (Lit.int .i64 x).wf = true) → wireglasslaw25_VoiceCodes.f l0 = some true
theorem wireglasslaw25_VoiceCodes.walk (P : wireglasslaw25_VoiceCodes.Pure) (a0 : Option Addr) (len0 cap0 : Nat) (z0 : List Int) (w : World) (w0 : (a0 = none ∧ len0 = 0 ∧ cap0 = 0 ∧ z0 = []) ∨ ∃ x, a0 = some x ∧ len0 ≤ cap0 ∧ cap0 ≤ maxLen ∧ z0.length = cap0 ∧ (∀ i, i < z0.length → w.cell? (x.add i) = some (.int .i64 (z0.getD i 0))) ∧ ∀ n ∈ z0, (Lit.int .i64 n).wf = true) (y0 : len0 * 8 ≤ 140737488351232) :
    Calls Try.prog 3 #[.slice a0 len0 cap0] w fun e w' => e = .returned (.bool true) ∧ Below w.heap.size w w' := by
  obtain ⟨l0, rfl, hr0, hm0, hw0, hc0⟩ := ReadsInt.ofRowC w0
  have h := P l0 hm0 y0 hw0
  exact wireglasslaw25_VoiceCodes.calls _ _ l0 true w (Kd.C_of_reads (d := (0 : Int)) (h1 := fun _ => rfl) hr0) hc0 h

/-! ### wireglassref25_samples: function 37 -/
def wireglassref25_samples.l0 : Nat → List Int → Int → Option (Bool)
  | 0, _, _ => none
  | k + 1, x0, x3 => if x3 < (x0.length : Int) then (if 0 ≤ x3 then ((wireglassref25_isSample.f (rd x0 x3)).bind fun t178 => (if t178 = true then (wireglassref25_samples.l0 k x0 (wrap64 (x3 + 1))) else (some false))) else (none)) else (some true)
def wireglassref25_samples.f (k : Nat) (l0 : List Int) : Option (Bool) := wireglassref25_samples.l0 k l0 0
theorem wireglassref25_samples.mono_l : ∀ k, (∀ y0 y1, LeO (wireglassref25_samples.l0 k y0 y1) (wireglassref25_samples.l0 (k + 1) y0 y1))
  | 0 => fun _ _ r h => by simp [wireglassref25_samples.l0] at h
  | k + 1 => by
    have ih0 := wireglassref25_samples.mono_l k
    · intro y0 y1
      unfold wireglassref25_samples.l0
      repeat' first
      | (with_reducible exact ih0 _ _)
      | (with_reducible exact LeO.refl _)
      | (with_reducible exact LeO.none _)
      | (with_reducible refine LeO.ite ?_ ?_)
      | (with_reducible refine LeO.bind ?_ (fun _ => ?_))
      | exact ih0 _ _
      | exact LeO.none _
      | refine LeO.ite ?_ ?_
      | refine LeO.bind ?_ (fun _ => ?_)
theorem wireglassref25_samples.mono : ∀ a0 k, LeO (wireglassref25_samples.f k a0) (wireglassref25_samples.f (k + 1) a0) := by
  intro a0 k
  have ih0 := wireglassref25_samples.mono_l k
  unfold wireglassref25_samples.f
  repeat' first
      | (with_reducible exact ih0 _ _)
      | (with_reducible exact LeO.refl _)
      | (with_reducible exact LeO.none _)
      | (with_reducible refine LeO.ite ?_ ?_)
      | (with_reducible refine LeO.bind ?_ (fun _ => ?_))
      | exact ih0 _ _
      | exact LeO.none _
      | refine LeO.ite ?_ ?_
      | refine LeO.bind ?_ (fun _ => ?_)
set_option maxHeartbeats 8000000 in
set_option maxRecDepth 100000 in
theorem wireglassref25_samples.calls (k : Nat) (A0 : Option Addr) (c0 : Nat) (l0 : List Int) (r : Bool) (w : World) (hr0 : Kd.C (Kd.int .i64) w A0 l0.length l0) (hc0 : l0.length ≤ c0) (h : wireglassref25_samples.f k l0 = some r) :
    Calls Try.prog 37 #[.slice A0 l0.length c0] w fun e w' => e = .returned (.bool r) ∧ Drawn0 w w' := by
  have HR0 := Aside0.mk hr0
  have HC0 := Aside0.mk hc0
  clear hr0 hc0
  have H : (wireglassref25_samples.l0 k l0 0) = some r := h
  clear h
  have H' := Aside0.mk H
  clear H
  go_enter Try.func37, Try.ntmps37
  go_wp2
  go_loopg [3] k (fun kq v3 w' => ∃ (x3_1 : Int), v3 = .int .i64 x3_1 ∧ Aside0 (wireglassref25_samples.l0 kq l0 x3_1 = some r) ∧ Aside0 (kq ≤ k) ∧ Drawn0 w w')
  case atStart => exact ⟨(0), (by first | rfl | (simp; done) | (simp [*]; done)), H', ⟨Nat.le_refl _⟩, by repeat (first | exact Drawn0.refl _ | apply Drawn0.step)⟩
  case round =>
    clear H'
    obtain ⟨x3_1, rfl, HA, HK1, ⟨m1, rfl⟩⟩ := hrel
    cases gk with
    | zero => exact absurd HA.out (by simp [wireglassref25_samples.l0])
    | succ k1 =>
      have H := HA.out
      clear HA
      simp only [wireglassref25_samples.l0] at H
      by_cases c2 : x3_1 < (l0.length : Int)
      · rw [if_pos c2] at H
        have c2b0 : decide (x3_1 < (l0.length : Int)) = true := decide_eq_true c2
        clear c2
        by_cases c3 : 0 ≤ x3_1
        · rw [if_pos c3] at H
          have c3b0 : decide (0 ≤ x3_1) = true := decide_eq_true c3
          clear c3
          replace H := Option.bind_eq_some_iff.mp H
          obtain ⟨t178, A40, H⟩ := H
          replace H : (if t178 = true then (wireglassref25_samples.l0 k1 l0 (wrap64 (x3_1 + 1))) else (some false)) = some r := H
          have A4 := Aside0.mk A40
          clear A40
          by_cases c5 : t178 = true
          · subst c5
            have H1 : (wireglassref25_samples.l0 k1 l0 (wrap64 (x3_1 + 1))) = some r := by rw [if_pos rfl] at H; exact H
            clear H
            have H := H1
            clear H1
            have H' := Aside0.mk H
            clear H
            have p177 : 0 ≤ (x3_1 : Int) := of_decide_eq_true (by first | (with_reducible assumption) | assumption)
            have q177 : x3_1 < (l0.length : Int) := of_decide_eq_true (by first | (with_reducible assumption) | assumption)
            obtain ⟨ad177, e177, hx177_0⟩ := Kd.at_int HR0.out x3_1 p177 q177
            cases e177
            replace p177 := eq_true p177
            replace q177 := eq_true q177
            go_wp2_with (first | ((with_reducible refine gate_callee (f := 31) rfl ?_); refine goesL_ (some 14) rfl rfl Try.func31 (by kernel_rfl) rfl #[.int .i64 (rd l0 x3_1)] rfl (by (try simp only [List.map_toArray, List.map_cons, List.map_nil]); first | done | rfl | (simp only [List.length_drop, List.length_take]; rfl)) ?_; (with_reducible refine (wireglassref25_isSample.calls (rd l0 x3_1) true _ A4.out).mono ?_); rintro e w' ⟨rfl, ⟨nd, rfl⟩⟩; refine ⟨_, rfl, ?_⟩))
            go_roundg k1
            case measure => have := HK1.out; omega
            case rel => exact ⟨(wrap64 (x3_1 + 1)), (by first | rfl | (simp; done) | (simp [*]; done)), H', ⟨by have := HK1.out; omega⟩, by repeat (first | exact Drawn0.refl _ | apply Drawn0.step)⟩
          · replace c5 := Bool.eq_false_iff.mpr c5
            subst c5
            have H1 : (some false) = some r := by rw [if_neg (show ¬ (false = true) by decide)] at H; exact H
            clear H
            have H := H1
            clear H1
            obtain rfl := Option.some.inj H
            have p177 : 0 ≤ (x3_1 : Int) := of_decide_eq_true (by first | (with_reducible assumption) | assumption)
            have q177 : x3_1 < (l0.length : Int) := of_decide_eq_true (by first | (with_reducible assumption) | assumption)
            obtain ⟨ad177, e177, hx177_0⟩ := Kd.at_int HR0.out x3_1 p177 q177
            cases e177
            replace p177 := eq_true p177
            replace q177 := eq_true q177
            go_wp2_with (first | ((with_reducible refine gate_callee (f := 31) rfl ?_); refine goesL_ (some 14) rfl rfl Try.func31 (by kernel_rfl) rfl #[.int .i64 (rd l0 x3_1)] rfl (by (try simp only [List.map_toArray, List.map_cons, List.map_nil]); first | done | rfl | (simp only [List.length_drop, List.length_take]; rfl)) ?_; (with_reducible refine (wireglassref25_isSample.calls (rd l0 x3_1) false _ A4.out).mono ?_); rintro e w' ⟨rfl, ⟨nd, rfl⟩⟩; refine ⟨_, rfl, ?_⟩))
            go_ret
            exact ⟨by first | rfl | (simp; done) | (simp [*]; done), by repeat (first | exact Drawn0.refl _ | apply Drawn0.step)⟩
        · rw [if_neg c3] at H
          exact absurd H (by simp)
      · rw [if_neg c2] at H
        have c2b0 : decide (x3_1 < (l0.length : Int)) = false := decide_eq_false c2
        clear c2
        obtain rfl := Option.some.inj H
        go_wp2
        go_ret
        exact ⟨by first | rfl | (simp; done) | (simp [*]; done), by repeat (first | exact Drawn0.refl _ | apply Drawn0.step)⟩

/-! ### wireglassref25_Coder_frame: function 38 -/
-- EXT rounds=1 making=1
-- STATE wireglassref25.Coder
def wireglassref25_Coder_frame.l0 : Nat → List Int → List Int → Int → Int → Int → List Int → Option (List Int × Int × Int)
  | 0, _, _, _, _, _, _ => none
  | k + 1, x5, l1, i, p, q, S => if i < (l1.length : Int) then (if 0 ≤ i then ((wireglassref25_Coder_code.f k p q S (rd l1 i)).bind fun t => (if (Int.tmod i 2) = 0 then (if x5.length < 140737488355328 then (wireglassref25_Coder_frame.l0 k (x5 ++ [(wrap64 (16 * t.1)) % 256]) l1 (wrap64 (i + 1)) t.2.1 t.2.2 S) else (none)) else (if 0 < x5.length then (wireglassref25_Coder_frame.l0 k (x5.set (x5.length - 1) ((rd x5 (x5.length - 1 : Nat) + t.1 % 256) % 256)) l1 (wrap64 (i + 1)) t.2.1 t.2.2 S) else (none)))) else (none)) else (some (x5, p, q))
def wireglassref25_Coder_frame.f (k : Nat) (s0_0 : Int) (s0_1 : Int) (s0_2 : List Int) (l1 : List Int) : Option (List Int × Int × Int) := wireglassref25_Coder_frame.l0 k [(s0_0 / 256) % 256, s0_0 % 256, s0_1 % 256, (l1.length : Int) % 256] l1 0 s0_0 s0_1 s0_2
theorem wireglassref25_Coder_frame.mono_l : ∀ k, (∀ y0 y1 y2 y3 y4 y5, LeO (wireglassref25_Coder_frame.l0 k y0 y1 y2 y3 y4 y5) (wireglassref25_Coder_frame.l0 (k + 1) y0 y1 y2 y3 y4 y5))
  | 0 => fun _ _ _ _ _ _ r h => by simp [wireglassref25_Coder_frame.l0] at h
  | k + 1 => by
    have ih0 := wireglassref25_Coder_frame.mono_l k
    intro y0 y1 y2 y3 y4 y5
    unfold wireglassref25_Coder_frame.l0
    refine LeO.ite (LeO.ite (LeO.bind (wireglassref25_Coder_code.mono _ _ _ _ k) (fun _ => LeO.ite (LeO.ite (ih0 _ _ _ _ _ _) (LeO.none _)) (LeO.ite (ih0 _ _ _ _ _ _) (LeO.none _)))) (LeO.none _)) (LeO.refl _)
theorem wireglassref25_Coder_frame.mono : ∀ a0 a1 a2 a3 k, LeO (wireglassref25_Coder_frame.f k a0 a1 a2 a3) (wireglassref25_Coder_frame.f (k + 1) a0 a1 a2 a3) := by
  intro a0 a1 a2 a3 k
  exact wireglassref25_Coder_frame.mono_l k _ _ _ _ _ _
set_option maxHeartbeats 8000000 in
set_option maxRecDepth 100000 in
theorem wireglassref25_Coder_frame.calls (k : Nat) (g : Nat) (s0_0 : Int) (s0_1 : Int) (s0_2 : List Int) (A1 : Option Addr) (c1 : Nat) (l1 : List Int) (r1 : List Int) (r2 : Int) (r3 : Int) (w0 w : World) (hI : IsS53 w0 w g s0_0 s0_1 s0_2) (hB : Below w0.heap.size w0 w) (hr1 : Kd.C (Kd.int .i64) w A1 l1.length l1) (hc1 : l1.length ≤ c1) (hf1 : ∀ ad, A1 = some ad → 0 < l1.length → ad.block ≠ g) (h : wireglassref25_Coder_frame.f k s0_0 s0_1 s0_2 l1 = some (r1, r2, r3)) :
    Calls Try.prog 38 #[.pointer (some ⟨g, 0, none⟩), .slice A1 l1.length c1] w fun e w' => ∃ v0_ : Value, e = .returned (v0_) ∧ Kd.R (Kd.int .u8) 5 w' w.heap.size (fun _ => True) v0_ r1 ∧ IsS53 w0 w' g r2 r3 s0_2 ∧ Below w0.heap.size w0 w' ∧ KeepBut w w' g none := by
  have hm := Kd.C_max hr1
  have HR1 := Aside0.mk hr1
  have HC1 := Aside0.mk hc1
  clear hr1 hc1
  have HI0 := Aside0.mk hI
  have HK := Aside0.mk (KeepBut.refl w g none)
  have HL := Aside0.mk hB.size
  have HB := Aside0.mk hB
  clear hI hB
  have HX := Aside0.mk h
  clear h
  obtain ⟨ASz, cSz, HGz, hgz, HSz⟩ := HI0.out
  have hcz_0 := cellS53_0 HGz
  have hcz_1 := cellS53_1 HGz
  clear HGz hgz HSz
  go_enter Try.func38, Try.ntmps38
  go_wp2
  go_region
  go_wp2
  have HO0 := Aside0.mk (Kd.R_drew (Kd.R_of_own (h1 := fun _ => rfl) (ok := fun _ => True) (own_lit w w.heap.size 5 .u8 [(s0_0 / 256) % 256, s0_0 % 256, s0_1 % 256, (l1.length : Int) % 256] (Nat.le_refl _) (by simp)) (fun _ _ => trivial)))
  go_loopg [5, 6] k (fun kq v5 v6 w' => ∃ (x5 : List Int) (i p pk : Int), v6 = .int .i64 i ∧ Aside0 (wireglassref25_Coder_frame.l0 kq x5 l1 i p pk s0_2 = some (r1, r2, r3)) ∧ Aside0 (Kd.R (Kd.int .u8) 5 w' w.heap.size (fun _ => True) v5 x5) ∧ Aside0 (IsS53 w0 w' g p pk s0_2) ∧ Aside0 (KeepBut w w' g none) ∧ Aside0 (Below w0.heap.size w0 w'))
  case atStart => exact ⟨_, 0, s0_0, s0_1, rfl, HX, HO0, ⟨by repeat (first | (with_reducible first | exact HI0.out | apply IsS53.alloc | apply IsS53.drewN | apply IsS53.drew) | exact HI0.out)⟩, ⟨by repeat (first | (with_reducible first | exact HK.out | apply keep_drewN | apply keep_drew | apply keep_alloc) | exact HK.out)⟩, ⟨by repeat (first | (with_reducible first | exact HB.out | apply below_alloc | apply pw_below_drewN | apply below_drew1) | exact HB.out)⟩⟩
  case round =>
    clear HX HO0 HI0 HK HB hcz_0 hcz_1
    obtain ⟨x5, i, p, pk, rfl, HX, HO, HI0, HK, HB⟩ := hrel
    cases gk with
    | zero => exact absurd HX.out (by simp [wireglassref25_Coder_frame.l0])
    | succ q =>
      have H := HX.out
      clear HX
      rw [wireglassref25_Coder_frame.l0] at H
      by_cases c1 : i < (l1.length : Int)
      · rw [if_pos c1] at H
        by_cases c2 : 0 ≤ i
        · rw [if_pos c2] at H
          obtain ⟨⟨t1, t2, t3⟩, ha, H⟩ := Option.bind_eq_some_iff.mp H
          have HA := Aside0.mk ha
          clear ha
          have c1b0 : decide (i < (l1.length : Int)) = true := decide_eq_true c1
          obtain ⟨ad, e, hx⟩ := Kd.at_int HR1.out i c2 c1
          cases e
          replace hx := keep_cell HK.out hx (by first | (rw [add_block]; exact hf1 _ rfl (by omega)) | exact hf1 _ rfl (by omega))
          have hw : IntKind.i64.wrap (i + 1) = wrap64 (i + 1) := i64_w _
          replace c1 := eq_true c1
          replace c2 := eq_true c2
          by_cases c3 : (Int.tmod i 2) = 0
          · rw [if_pos c3] at H
            have c3b0 : ((Int.tmod i 2) == 0) = true := beq_iff_eq.mpr c3
            clear c3
            by_cases c4 : x5.length < 140737488355328
            · rw [if_pos c4] at H
              have HLn := Aside0.mk c4
              clear c4
              have HX := Aside0.mk H
              clear H
              go_wp2_with (first
                | (go_at_call 32; (with_reducible refine (wireglassref25_Coder_code.calls q g p pk s0_2 (rd l1 i) t1 t2 t3 w0 _ ?side1 ?side2 HA.out).mono ?_); (case side1 => repeat (first | (with_reducible first | exact HI0.out | apply IsS53.alloc | apply IsS53.drewN | apply IsS53.drew) | exact HI0.out)); (case side2 => repeat (first | (with_reducible first | exact HB.out | apply below_alloc | apply pw_below_drewN | apply below_drew1) | exact HB.out)); rintro e w18 ⟨rfl, hi, hb, hk⟩; have n0_ := Aside0.mk (Kd.R_mono (Kd.R_keep (IsS53.apart (show IsS53 w0 _ g p pk s0_2 from by repeat (first | (with_reducible first | exact HI0.out | apply IsS53.alloc | apply IsS53.drewN | apply IsS53.drew) | exact HI0.out)) (by (with_reducible repeat (first | apply Kd.R_alloc | apply Kd.R_drewN | apply Kd.R_drew)); exact HO.out) (by decide)) hk (fun _ h => h.2)) (fun _ h => h.1)); have n1_ := Aside0.mk (KeepBut.trans (by repeat (first | (with_reducible first | exact HK.out | apply keep_drewN | apply keep_drew | apply keep_alloc) | exact HK.out)) hk (.inl rfl)); have n2_ := Aside0.mk hb; have n3_ := Aside0.mk hi; clear HO HK HB HI0; have HO := n0_; have HK := n1_; have HB := n2_; have HI0 := n3_; clear n0_ n1_ n2_ n3_ hb hk hi)
                | (at_builtin; refine Kd.R_append (Kd.int .u8) w.heap.size rfl (.tmp 43) (.tmp 47) 37 5 (.int .u8 0) 1 rfl Try.underlying37 info5 rfl (by decide) (by omega) u5 x5 ((wrap64 (16 * t1)) % 256) [.int .u8 ((wrap64 (16 * t1)) % 256)] (fun _ => True) (fun _ => False) rfl rfl ?aP (fun _ hk => hk.elim) ?aF ?aO (Below.refl _ _) ?aS ?aL ?_; (case aP => exact rfl); (case aF => exact (fun _ _ => trivial)); (case aO => exact (by (with_reducible repeat (first | apply Kd.R_alloc | apply Kd.R_drewN | apply Kd.R_drew)); exact HO.out)); (case aS => exact (keep_size (w := w) (g := g) (row := none) (by repeat (first | (with_reducible first | exact HK.out | apply keep_drewN | apply keep_drew | apply keep_alloc) | exact HK.out)))); (case aL => have := HLn.out; omega); intro v129 w19 ho hb hg hat; have n0_ := Aside0.mk (IsS53.grown (by repeat (first | (with_reducible first | exact HI0.out | apply IsS53.alloc | apply IsS53.drewN | apply IsS53.drew) | exact HI0.out)) hg (IsS53.own_ne HI0.out HO.out (by decide))); have n1_ := Aside0.mk (below_weaken (by repeat (first | (with_reducible first | exact HB.out | apply below_alloc | apply pw_below_drewN | apply below_drew1) | exact HB.out)) HL.out hb); have n2_ := Aside0.mk (KeepBut.trans (by repeat (first | (with_reducible first | exact HK.out | apply keep_drewN | apply keep_drew | apply keep_alloc) | exact HK.out)) (KeepBut.of_grown hg g) (Kd.R_base2 HO.out)); have n3_ := Aside0.mk ho; clear HI0 HB HK HO; have HI0 := n0_; have HB := n1_; have HK := n2_; have HO := n3_; clear n0_ n1_ n2_ n3_ ho hb hg hat))
              go_roundg q
              case measure => omega
              case rel => exact ⟨_, _, t2, t3, rfl, HX, HO, ⟨by repeat (first | (with_reducible first | exact HI0.out | apply IsS53.alloc | apply IsS53.drewN | apply IsS53.drew) | exact HI0.out)⟩, ⟨by repeat (first | (with_reducible first | exact HK.out | apply keep_drewN | apply keep_drew | apply keep_alloc) | exact HK.out)⟩, ⟨by repeat (first | (with_reducible first | exact HB.out | apply below_alloc | apply pw_below_drewN | apply below_drew1) | exact HB.out)⟩⟩
            · rw [if_neg c4] at H
              exact absurd H (by simp)
          · rw [if_neg c3] at H
            have c3b0 : ((Int.tmod i 2) == 0) = false := beq_eq_false_iff_ne.mpr c3
            clear c3
            by_cases c4 : 0 < x5.length
            · rw [if_pos c4] at H
              have HX := Aside0.mk H
              clear H
              have hmx := Kd.C_max (Kd.R_reads HO.out).choose_spec.choose_spec.2.2
              obtain ⟨ji, hji⟩ : ∃ ji : Int, (x5.length : Int) - 1 = ji := ⟨_, rfl⟩
              have hjw : IntKind.i64.wrap ((x5.length : Int) - 1) = ji := by rw [i64_w, hji]; unfold wrap64; omega
              have p1 : 0 ≤ ji := by omega
              have q1 : ji < (x5.length : Int) := by omega
              have hjt : ji.toNat = x5.length - 1 := by omega
              have hjc : ((x5.length - 1 : Nat) : Int) = ji := by omega
              have HJ := Aside0.mk hjt
              have HJC := Aside0.mk hjc
              clear hji hmx c4 hjt hjc
              go_wp2_with (first
                | (go_at_call 32; (with_reducible refine (wireglassref25_Coder_code.calls q g p pk s0_2 (rd l1 i) t1 t2 t3 w0 _ ?side1 ?side2 HA.out).mono ?_); (case side1 => repeat (first | (with_reducible first | exact HI0.out | apply IsS53.alloc | apply IsS53.drewN | apply IsS53.drew) | exact HI0.out)); (case side2 => repeat (first | (with_reducible first | exact HB.out | apply below_alloc | apply pw_below_drewN | apply below_drew1) | exact HB.out)); rintro e w18 ⟨rfl, hi, hb, hk⟩; have n0_ := Aside0.mk (Kd.R_mono (Kd.R_keep (IsS53.apart (show IsS53 w0 _ g p pk s0_2 from by repeat (first | (with_reducible first | exact HI0.out | apply IsS53.alloc | apply IsS53.drewN | apply IsS53.drew) | exact HI0.out)) (by (with_reducible repeat (first | apply Kd.R_alloc | apply Kd.R_drewN | apply Kd.R_drew)); exact HO.out) (by decide)) hk (fun _ h => h.2)) (fun _ h => h.1)); have n1_ := Aside0.mk (KeepBut.trans (by repeat (first | (with_reducible first | exact HK.out | apply keep_drewN | apply keep_drew | apply keep_alloc) | exact HK.out)) hk (.inl rfl)); have n2_ := Aside0.mk hb; have n3_ := Aside0.mk hi; clear HO HK HB HI0; have HO := n0_; have HK := n1_; have HB := n2_; have HI0 := n3_; clear n0_ n1_ n2_ n3_ hb hk hi; obtain ⟨go, co, eo, gb, gl, cl, HGo⟩ := Kd.R_form HO.out (by omega); subst eo; have GB := Aside0.mk gb; clear gb gl HGo; obtain ⟨hxo, hfo⟩ := Kd.R_celln 0 HO.out ji p1 q1; have HP := Kd.R_putg HO.out ji ((rd x5 ji + t1 % 256) % 256); have p1 := eq_true p1; have q1 := eq_true q1)
                | ((with_reducible refine gate_store (t := 5) (p := 58) rfl ?_); refine store_event (t := 5) (p := 58) (v := ?vo) (w1 := (w18.setCell ⟨go, ji.toNat, none⟩ (.int .u8 ((rd x5 ji + t1 % 256) % 256)))) ?hg ?ho ?hn ?hr ?_; (case ho => rfl); (case hg => rfl); (case hn => rfl); (case hr => first | (go_simp; done) | (go_simp; rfl)); intro w27 hw; have hg : w18.grownBy w27 (some go) := (by rw [hw]; exact HP.2); have hp_ : Kd.R (Kd.int .u8) 5 w27 w.heap.size (fun _ => True) (.slice (some ⟨go, 0, none⟩) x5.length co) (x5.set (x5.length - 1) ((rd x5 (x5.length - 1 : Nat) + t1 % 256) % 256)) := (by rw [hw, HJC.out, ← HJ.out]; exact HP.1); clear HP; have n0_ := Aside0.mk (hp_); have n1_ := Aside0.mk (IsS53.grown (by repeat (first | (with_reducible first | exact HI0.out | apply IsS53.alloc | apply IsS53.drewN | apply IsS53.drew) | exact HI0.out)) hg (IsS53.own_ne HI0.out HO.out (by decide))); have n2_ := Aside0.mk ((by rw [hw]; exact below_set (HB.out) (Nat.le_trans HL.out GB.out) : Below w0.heap.size w0 w27)); have n3_ := Aside0.mk (KeepBut.trans (by repeat (first | (with_reducible first | exact HK.out | apply keep_drewN | apply keep_drew | apply keep_alloc) | exact HK.out)) (KeepBut.of_grown hg g) (Kd.R_base2 HO.out)); clear HO HI0 HB HK; have HO := n0_; have HI0 := n1_; have HB := n2_; have HK := n3_; clear n0_ n1_ n2_ n3_ hg hw hp_))
              go_roundg q
              case measure => omega
              case rel => exact ⟨_, _, t2, t3, rfl, HX, HO, ⟨by repeat (first | (with_reducible first | exact HI0.out | apply IsS53.alloc | apply IsS53.drewN | apply IsS53.drew) | exact HI0.out)⟩, ⟨by repeat (first | (with_reducible first | exact HK.out | apply keep_drewN | apply keep_drew | apply keep_alloc) | exact HK.out)⟩, ⟨by repeat (first | (with_reducible first | exact HB.out | apply below_alloc | apply pw_below_drewN | apply below_drew1) | exact HB.out)⟩⟩
            · rw [if_neg c4] at H
              exact absurd H (by simp)
        · rw [if_neg c2] at H
          exact absurd H (by simp)
      · rw [if_neg c1] at H
        have c1b0 : decide (i < (l1.length : Int)) = false := decide_eq_false c1
        clear c1
        simp only [Option.some.injEq, Prod.mk.injEq] at H
        obtain ⟨rfl, rfl, rfl⟩ := H
        go_wp2
        go_ret
        exact ⟨_, rfl, by (with_reducible repeat (first | apply Kd.R_alloc | apply Kd.R_drewN | apply Kd.R_drew)); exact HO.out, by repeat (first | (with_reducible first | exact HI0.out | apply IsS53.alloc | apply IsS53.drewN | apply IsS53.drew) | exact HI0.out), by repeat (first | (with_reducible first | exact HB.out | apply below_alloc | apply pw_below_drewN | apply below_drew1) | exact HB.out), by repeat (first | (with_reducible first | exact HK.out | apply keep_drewN | apply keep_drew | apply keep_alloc) | exact HK.out)⟩

/-! ### wireglassref25_Frame: function 20 -/
-- EXT rounds=1 making=1
-- STATE wireglassref25.Coder
theorem rSamples_from (l : List Int) (hl : l.length ≤ 9223372036854775807) : ∀ (k i : Nat), i + k = l.length → wireglassref25_samples.l0 (k + 1) l (i : Int) = some ((l.drop i).all vIn)
  | 0, i, h => by
    rw [wireglassref25_samples.l0, if_neg (by omega), List.drop_eq_nil_of_le (by omega)]; rfl
  | k + 1, i, h => by
    rw [wireglassref25_samples.l0, if_pos (by omega), if_pos (by omega), wireglassref25_isSample.vin' rfl, Option.bind_some, List.drop_eq_getElem_cons (by omega : i < l.length)]
    rw [show rd l (i : Int) = l[i]'(by omega) by unfold rd; rw [List.getD_eq_getElem?_getD, Int.toNat_natCast, List.getElem?_eq_getElem (by omega : i < l.length)]; rfl]
    cases hv : vIn (l[i]'(by omega)) with
    | true =>
      rw [if_pos rfl, show wrap64 ((i : Int) + 1) = ((i + 1 : Nat) : Int) by unfold wrap64; omega, rSamples_from l hl k (i + 1) (by omega), List.all_cons, hv]; rfl
    | false => rw [if_neg (by decide), List.all_cons, hv]; rfl
theorem wireglassref25_samples.vin {l : List Int} {r : Bool} (hl : l.length ≤ 9223372036854775807) (h : l.all vIn = r) : wireglassref25_samples.f (l.length + 1) l = some r := by
  rw [← h]; exact rSamples_from l hl l.length 0 (by omega)
def wireglassref25_Frame.f (k : Nat) (l0 : List Int) (a1 : Int) (a2 : Int) : Option (List Int × Int) := if vFrameOk l0 a1 a2 = true then (wireglassref25_Coder_frame.f k a1 a2 (vStepsL 89) l0).map (fun t => (t.1, 0)) else some ([], 1)
theorem wireglassref25_Frame.mono : ∀ a0 a1 a2 k, LeO (wireglassref25_Frame.f k a0 a1 a2) (wireglassref25_Frame.f (k + 1) a0 a1 a2) := by
  intro a0 a1 a2 k
  unfold wireglassref25_Frame.f
  refine LeO.ite ?_ (LeO.refl _)
  exact LeO.map _ (wireglassref25_Coder_frame.mono _ _ _ _ k)
set_option maxHeartbeats 8000000 in
set_option maxRecDepth 100000 in
theorem wireglassref25_Frame.fails (A0 : Option Addr) (c0 : Nat) (l0 : List Int) (a1 : Int) (a2 : Int) (w : World) (hr0 : Kd.C (Kd.int .i64) w A0 l0.length l0) (hc0 : l0.length ≤ c0) (h : vFrameOk l0 a1 a2 = false) :
    Calls Try.prog 20 #[.slice A0 l0.length c0, .int .i64 a1, .int .i64 a2] w fun e w' => ∃ v0_ : Value, e = .returned (.tuple #[v0_, .int .i64 1]) ∧ Kd.R (Kd.int .u8) 5 w' w.heap.size (fun _ => True) v0_ [] ∧ Below w.heap.size w w' := by
  have hm := Kd.C_max hr0
  have HR0 := Aside0.mk hr0
  have HC0 := Aside0.mk hc0
  clear hr0 hc0
  have H := Aside0.mk h
  clear h
  by_cases c1 : (l0.length : Int) < 1
  · have c1b0 : decide ((l0.length : Int) < 1) = true := decide_eq_true c1
    have c1b1 : decide (l0.length < 1) = true := decide_eq_true (by omega)
    have HA : Aside0 (l0.all vIn = l0.all vIn) := ⟨rfl⟩
    have HP : Aside0 (vIn a1 = vIn a1) := ⟨rfl⟩
    clear c1
    go_enter Try.func20, Try.ntmps20
    go_wp2_with (first
      | (go_at_call 37; (with_reducible refine (wireglassref25_samples.calls (l0.length + 1) A0 c0 l0 _ _ HR0.out HC0.out <| wireglassref25_samples.vin (Kd.C_max HR0.out) <| HA.out).mono ?_); rintro e w' ⟨rfl, ⟨nd, rfl⟩⟩)
      | (go_at_call 31; (with_reducible refine (wireglassref25_isSample.calls a1 _ _ <| wireglassref25_isSample.vin' <| HP.out).mono ?_); rintro e w' ⟨rfl, ⟨nd2, rfl⟩⟩))
    go_ret2
    exact ⟨.slice none 0 0, rfl, Kd.R_nil _ _ _ _ _, by repeat (first | exact Below.refl _ _ | apply pw_below_drewN | apply below_drew1)⟩

  have c1b0 : decide ((l0.length : Int) < 1) = false := decide_eq_false c1
  have c1b1 : decide (l0.length < 1) = false := decide_eq_false (by omega)
  by_cases c2 : (255 : Int) < (l0.length : Int)
  · have c2b0 : decide (255 < (l0.length : Int)) = true := decide_eq_true c2
    have c2b1 : decide (255 < l0.length) = true := decide_eq_true (by omega)
    have HA : Aside0 (l0.all vIn = l0.all vIn) := ⟨rfl⟩
    have HP : Aside0 (vIn a1 = vIn a1) := ⟨rfl⟩
    clear c1 c2
    go_enter Try.func20, Try.ntmps20
    go_wp2_with (first
      | (go_at_call 37; (with_reducible refine (wireglassref25_samples.calls (l0.length + 1) A0 c0 l0 _ _ HR0.out HC0.out <| wireglassref25_samples.vin (Kd.C_max HR0.out) <| HA.out).mono ?_); rintro e w' ⟨rfl, ⟨nd, rfl⟩⟩)
      | (go_at_call 31; (with_reducible refine (wireglassref25_isSample.calls a1 _ _ <| wireglassref25_isSample.vin' <| HP.out).mono ?_); rintro e w' ⟨rfl, ⟨nd2, rfl⟩⟩))
    go_ret2
    exact ⟨.slice none 0 0, rfl, Kd.R_nil _ _ _ _ _, by repeat (first | exact Below.refl _ _ | apply pw_below_drewN | apply below_drew1)⟩

  have c2b0 : decide (255 < (l0.length : Int)) = false := decide_eq_false c2
  have c2b1 : decide (255 < l0.length) = false := decide_eq_false (by omega)
  cases ha : l0.all vIn with
  | false =>
    have HA := Aside0.mk ha
    have HP : Aside0 (vIn a1 = vIn a1) := ⟨rfl⟩
    clear ha c1 c2
    go_enter Try.func20, Try.ntmps20
    go_wp2_with (first
      | (go_at_call 37; (with_reducible refine (wireglassref25_samples.calls (l0.length + 1) A0 c0 l0 false _ HR0.out HC0.out <| wireglassref25_samples.vin (Kd.C_max HR0.out) <| HA.out).mono ?_); rintro e w' ⟨rfl, ⟨nd, rfl⟩⟩)
      | (go_at_call 31; (with_reducible refine (wireglassref25_isSample.calls a1 _ _ <| wireglassref25_isSample.vin' <| HP.out).mono ?_); rintro e w' ⟨rfl, ⟨nd2, rfl⟩⟩))
    go_ret2
    exact ⟨.slice none 0 0, rfl, Kd.R_nil _ _ _ _ _, by repeat (first | exact Below.refl _ _ | apply pw_below_drewN | apply below_drew1)⟩

  | true =>
    have HA := Aside0.mk ha
    cases hp : vIn a1 with
    | false =>
      have HP := Aside0.mk hp
      clear ha hp c1 c2
      go_enter Try.func20, Try.ntmps20
      go_wp2_with (first
        | (go_at_call 37; (with_reducible refine (wireglassref25_samples.calls (l0.length + 1) A0 c0 l0 true _ HR0.out HC0.out <| wireglassref25_samples.vin (Kd.C_max HR0.out) <| HA.out).mono ?_); rintro e w' ⟨rfl, ⟨nd, rfl⟩⟩)
        | (go_at_call 31; (with_reducible refine (wireglassref25_isSample.calls a1 false _ <| wireglassref25_isSample.vin' <| HP.out).mono ?_); rintro e w' ⟨rfl, ⟨nd2, rfl⟩⟩))
      go_ret2
      exact ⟨.slice none 0 0, rfl, Kd.R_nil _ _ _ _ _, by repeat (first | exact Below.refl _ _ | apply pw_below_drewN | apply below_drew1)⟩

    | true =>
      have HP := Aside0.mk hp
      clear ha hp
      by_cases c3 : a2 < 0
      · have c3b : decide (a2 < 0) = true := decide_eq_true c3
        clear c1 c2 c3
        go_enter Try.func20, Try.ntmps20
        go_wp2_with (first
          | (go_at_call 37; (with_reducible refine (wireglassref25_samples.calls (l0.length + 1) A0 c0 l0 true _ HR0.out HC0.out <| wireglassref25_samples.vin (Kd.C_max HR0.out) <| HA.out).mono ?_); rintro e w' ⟨rfl, ⟨nd, rfl⟩⟩)
          | (go_at_call 31; (with_reducible refine (wireglassref25_isSample.calls a1 true _ <| wireglassref25_isSample.vin' <| HP.out).mono ?_); rintro e w' ⟨rfl, ⟨nd2, rfl⟩⟩))
        go_ret2
        exact ⟨.slice none 0 0, rfl, Kd.R_nil _ _ _ _ _, by repeat (first | exact Below.refl _ _ | apply pw_below_drewN | apply below_drew1)⟩

      have c3b : decide (a2 < 0) = false := decide_eq_false c3
      by_cases c4 : 88 < a2
      · have c4b : decide (88 < a2) = true := decide_eq_true c4
        clear c1 c2 c3 c4
        go_enter Try.func20, Try.ntmps20
        go_wp2_with (first
          | (go_at_call 37; (with_reducible refine (wireglassref25_samples.calls (l0.length + 1) A0 c0 l0 true _ HR0.out HC0.out <| wireglassref25_samples.vin (Kd.C_max HR0.out) <| HA.out).mono ?_); rintro e w' ⟨rfl, ⟨nd, rfl⟩⟩)
          | (go_at_call 31; (with_reducible refine (wireglassref25_isSample.calls a1 true _ <| wireglassref25_isSample.vin' <| HP.out).mono ?_); rintro e w' ⟨rfl, ⟨nd2, rfl⟩⟩))
        go_ret2
        exact ⟨.slice none 0 0, rfl, Kd.R_nil _ _ _ _ _, by repeat (first | exact Below.refl _ _ | apply pw_below_drewN | apply below_drew1)⟩

      exfalso
      have h := H.out
      unfold vFrameOk at h
      rw [HA.out, HP.out, decide_eq_true (by omega : 1 ≤ l0.length ∧ l0.length ≤ 255), decide_eq_true (by omega : 0 ≤ a2 ∧ a2 ≤ 88)] at h
      exact absurd h (by decide)
set_option maxHeartbeats 8000000 in
set_option maxRecDepth 100000 in
theorem wireglassref25_Frame.does (k : Nat) (A0 : Option Addr) (c0 : Nat) (l0 : List Int) (a1 : Int) (a2 : Int) (r1 : List Int) (p2 p3 : Int) (w : World) (hr0 : Kd.C (Kd.int .i64) w A0 l0.length l0) (hc0 : l0.length ≤ c0) (h : vFrameOk l0 a1 a2 = true) (hf : wireglassref25_Coder_frame.f k a1 a2 (vStepsL 89) l0 = some (r1, p2, p3)) :
    Calls Try.prog 20 #[.slice A0 l0.length c0, .int .i64 a1, .int .i64 a2] w fun e w' => ∃ v0_ : Value, e = .returned (.tuple #[v0_, .int .i64 0]) ∧ Kd.R (Kd.int .u8) 5 w' w.heap.size (fun _ => True) v0_ r1 ∧ Below w.heap.size w w' := by
  have hm := Kd.C_max hr0
  have HR0 := Aside0.mk hr0
  have HC0 := Aside0.mk hc0
  have HF := Aside0.mk hf
  clear hr0 hc0 hf
  unfold vFrameOk at h
  simp only [Bool.and_eq_true, decide_eq_true_eq] at h
  obtain ⟨⟨⟨⟨h1, h2⟩, ha⟩, hp⟩, h3, h4⟩ := h
  have HA := Aside0.mk ha
  have HP := Aside0.mk hp
  have c1b0 : decide ((l0.length : Int) < 1) = false := decide_eq_false (by omega)
  have c1b1 : decide (l0.length < 1) = false := decide_eq_false (by omega)
  have c2b0 : decide (255 < (l0.length : Int)) = false := decide_eq_false (by omega)
  have c2b1 : decide (255 < l0.length) = false := decide_eq_false (by omega)
  have c3b : decide (a2 < 0) = false := decide_eq_false (by omega)
  have c4b : decide (88 < a2) = false := decide_eq_false (by omega)
  have HN := Aside0.mk (show 0 < l0.length by omega)
  clear ha hp h1 h2 h3 h4
  go_enter Try.func20, Try.ntmps20
  go_wp2_with (first
    | (go_at_call 37; (with_reducible refine (wireglassref25_samples.calls (l0.length + 1) A0 c0 l0 true _ HR0.out HC0.out <| wireglassref25_samples.vin (Kd.C_max HR0.out) <| HA.out).mono ?_); rintro e w' ⟨rfl, ⟨nd, rfl⟩⟩)
    | (go_at_call 31; (with_reducible refine (wireglassref25_isSample.calls a1 true _ <| wireglassref25_isSample.vin' <| HP.out).mono ?_); rintro e w' ⟨rfl, ⟨nd2, rfl⟩⟩)
    | (go_at_call 9; (with_reducible refine (wireglassref25_NewCoder.calls _).mono ?_); rintro e w2 ⟨g, w1, rfl, hI, hb, hb2⟩; have HI := Aside0.mk hI; have HB := Aside0.mk hb; have HB2 : Aside0 (Below w.heap.size w w1) := ⟨(pw_below_drewN (Below.refl _ w) _).trans hb2⟩; obtain ⟨A2, c2, HG, hg, hc⟩ := hI; have k0 := cellS53_0 HG; have k1 := cellS53_1 HG; have k2 := blk_frozen HG 0; have k3 := blk_frozen HG 1; clear hb hb2 HG hg hc)
    | (go_at_call 38; (with_reducible refine (wireglassref25_Coder_frame.calls k g a1 a2 (vStepsL 89) A0 c0 l0 r1 p2 p3 w1 _ (IsS53.set_1 (IsS53.set_0 HI.out _) _) (below_set (below_set HB.out (IsS53.ge HI.out)) (IsS53.ge HI.out)) ?hr HC0.out ?hf HF.out).mono ?_); (case hr => exact Kd.C_below HR0.out (below_set (below_set (HB2.out.trans (HB.out.mono HB2.out.size)) (Nat.le_trans HB2.out.size (IsS53.ge HI.out))) (Nat.le_trans HB2.out.size (IsS53.ge HI.out)))); (case hf => rintro ad rfl _; have := Kd.C_lt HR0.out HN.out (by decide); have := IsS53.ge HI.out; have := HB2.out.size; simp at *; omega); rintro e w3 ⟨v0, rfl, ho, _, hb3, _⟩; have HO := Aside0.mk ho; have HB3 := Aside0.mk hb3; clear ho hb3))
  go_ret2
  refine ⟨v0, rfl, ?_, ?_⟩
  · have h2 := HB2.out.size
    have h3 := HB.out.size
    exact Kd.R_lower HO.out (by simp [World.setCell] at *; omega)
  · exact (HB2.out.trans (HB3.out.mono HB2.out.size))
theorem wireglassref25_Frame.calls (k : Nat) (A0 : Option Addr) (c0 : Nat) (l0 : List Int) (a1 : Int) (a2 : Int) (r1 : List Int) (r2 : Int) (w : World) (hr0 : Kd.C (Kd.int .i64) w A0 l0.length l0) (hc0 : l0.length ≤ c0) (h : wireglassref25_Frame.f k l0 a1 a2 = some (r1, r2)) :
    Calls Try.prog 20 #[.slice A0 l0.length c0, .int .i64 a1, .int .i64 a2] w fun e w' => ∃ v0_ : Value, e = .returned (.tuple #[v0_, .int .i64 r2]) ∧ Kd.R (Kd.int .u8) 5 w' w.heap.size (fun _ => True) v0_ r1 ∧ Below w.heap.size w w' := by
  unfold wireglassref25_Frame.f at h
  cases hv : vFrameOk l0 a1 a2 with
  | false =>
    rw [if_neg (by rw [hv]; decide)] at h
    simp only [Option.some.injEq, Prod.mk.injEq] at h
    obtain ⟨rfl, rfl⟩ := h
    exact wireglassref25_Frame.fails A0 c0 l0 a1 a2 w hr0 hc0 hv
  | true =>
    rw [if_pos hv] at h
    obtain ⟨⟨x1, x2, x3⟩, hx, he⟩ := Option.map_eq_some_iff.mp h
    simp only [Prod.mk.injEq] at he
    obtain ⟨rfl, rfl⟩ := he
    exact wireglassref25_Frame.does k A0 c0 l0 a1 a2 x1 x2 x3 w hr0 hc0 hv hx

/-! ### wide_Get: function 39 -/
def wide_Get.l0 : Nat → List Int → Bool → Int → Int → Int → Option (Int)
  | 0, _, _, _, _, _ => none
  | k + 1, x0, x1, x5, x8, x9 => if x9 < x8 then (if x1 = true then (if 0 ≤ (wrap64 ((wrap64 ((x0.length : Int) - 1)) - x9)) then (if (wrap64 ((wrap64 ((x0.length : Int) - 1)) - x9)) < (x0.length : Int) then (wide_Get.l0 k x0 x1 (Go.bits .or .u64 (IntKind.u64.wrap (x5 * 256)) (IntKind.u64.wrap (rd x0 (wrap64 ((wrap64 ((x0.length : Int) - 1)) - x9))))) x8 (wrap64 (x9 + 1))) else (none)) else (none)) else (if 0 ≤ x9 then (if x9 < (x0.length : Int) then (wide_Get.l0 k x0 x1 (Go.bits .or .u64 (IntKind.u64.wrap (x5 * 256)) (IntKind.u64.wrap (rd x0 x9))) x8 (wrap64 (x9 + 1))) else (none)) else (none))) else (some x5)
def wide_Get.f (k : Nat) (l0 : List Int) (a1 : Bool) : Option (Int) := wide_Get.l0 k l0 a1 0 (l0.length : Int) 0
theorem wide_Get.mono_l : ∀ k, (∀ y0 y1 y2 y3 y4, LeO (wide_Get.l0 k y0 y1 y2 y3 y4) (wide_Get.l0 (k + 1) y0 y1 y2 y3 y4))
  | 0 => fun _ _ _ _ _ r h => by simp [wide_Get.l0] at h
  | k + 1 => by
    have ih0 := wide_Get.mono_l k
    · intro y0 y1 y2 y3 y4
      unfold wide_Get.l0
      repeat' first
      | (with_reducible exact ih0 _ _ _ _ _)
      | (with_reducible exact LeO.refl _)
      | (with_reducible exact LeO.none _)
      | (with_reducible refine LeO.ite ?_ ?_)
      | (with_reducible refine LeO.bind ?_ (fun _ => ?_))
      | exact ih0 _ _ _ _ _
      | exact LeO.none _
      | refine LeO.ite ?_ ?_
      | refine LeO.bind ?_ (fun _ => ?_)
theorem wide_Get.mono : ∀ a0 a1 k, LeO (wide_Get.f k a0 a1) (wide_Get.f (k + 1) a0 a1) := by
  intro a0 a1 k
  have ih0 := wide_Get.mono_l k
  unfold wide_Get.f
  repeat' first
      | (with_reducible exact ih0 _ _ _ _ _)
      | (with_reducible exact LeO.refl _)
      | (with_reducible exact LeO.none _)
      | (with_reducible refine LeO.ite ?_ ?_)
      | (with_reducible refine LeO.bind ?_ (fun _ => ?_))
      | exact ih0 _ _ _ _ _
      | exact LeO.none _
      | refine LeO.ite ?_ ?_
      | refine LeO.bind ?_ (fun _ => ?_)
set_option maxHeartbeats 8000000 in
set_option maxRecDepth 100000 in
theorem wide_Get.calls (k : Nat) (A0 : Option Addr) (c0 : Nat) (l0 : List Int) (a1 : Bool) (r : Int) (w : World) (hr0 : Kd.C (Kd.int .u8) w A0 l0.length l0) (hc0 : l0.length ≤ c0) (h : wide_Get.f k l0 a1 = some r) :
    Calls Try.prog 39 #[.slice A0 l0.length c0, .bool a1] w fun e w' => e = .returned (.int .u64 r) ∧ Drawn0 w w' := by
  have HR0 := Aside0.mk hr0
  have HC0 := Aside0.mk hc0
  clear hr0 hc0
  have H : (wide_Get.l0 k l0 a1 0 (l0.length : Int) 0) = some r := h
  clear h
  have H' := Aside0.mk H
  clear H
  go_enter Try.func39, Try.ntmps39
  go_wp2
  go_loopg [5, 9] k (fun kq v5 v9 w' => ∃ (x5_1 : Int) (x9_1 : Int), v5 = .int .u64 x5_1 ∧ v9 = .int .i64 x9_1 ∧ Aside0 (wide_Get.l0 kq l0 a1 x5_1 (l0.length : Int) x9_1 = some r) ∧ Aside0 (kq ≤ k) ∧ Drawn0 w w')
  case atStart => exact ⟨(0), (0), (by first | rfl | (simp; done) | (simp [*]; done)), (by first | rfl | (simp; done) | (simp [*]; done)), H', ⟨Nat.le_refl _⟩, by repeat (first | exact Drawn0.refl _ | apply Drawn0.step)⟩
  case round =>
    clear H'
    try clear p2
    obtain ⟨x5_1, x9_1, rfl, rfl, HA, HK1, ⟨m1, rfl⟩⟩ := hrel
    cases gk with
    | zero => exact absurd HA.out (by simp [wide_Get.l0])
    | succ k1 =>
      have H := HA.out
      clear HA
      simp only [wide_Get.l0] at H
      by_cases c3 : x9_1 < (l0.length : Int)
      · rw [if_pos c3] at H
        have c3b0 : decide (x9_1 < (l0.length : Int)) = true := decide_eq_true c3
        clear c3
        by_cases c4 : a1 = true
        · subst c4
          have H1 : (if 0 ≤ (wrap64 ((wrap64 ((l0.length : Int) - 1)) - x9_1)) then (if (wrap64 ((wrap64 ((l0.length : Int) - 1)) - x9_1)) < (l0.length : Int) then (wide_Get.l0 k1 l0 true (Go.bits .or .u64 (IntKind.u64.wrap (x5_1 * 256)) (IntKind.u64.wrap (rd l0 (wrap64 ((wrap64 ((l0.length : Int) - 1)) - x9_1))))) (l0.length : Int) (wrap64 (x9_1 + 1))) else (none)) else (none)) = some r := by rw [if_pos rfl] at H; exact H
          clear H
          have H := H1
          clear H1
          obtain ⟨ji5, hji5⟩ : ∃ j_ : Int, (wrap64 ((wrap64 ((l0.length : Int) - 1)) - x9_1)) = j_ := ⟨_, rfl⟩
          replace H : (if 0 ≤ (ji5) then (if (ji5) < (l0.length : Int) then (wide_Get.l0 k1 l0 true (Go.bits .or .u64 (IntKind.u64.wrap (x5_1 * 256)) (IntKind.u64.wrap (rd l0 (ji5)))) (l0.length : Int) (wrap64 (x9_1 + 1))) else (none)) else (none)) = some r := by first | (rw [hji5] at H; exact H) | (simp only [hji5] at H ⊢; exact H)
          have hji5w : (IntKind.i64.wrap ((wrap64 ((l0.length : Int) - 1)) - x9_1)) = ji5 := (i64_w _).trans hji5
          by_cases c6 : 0 ≤ (ji5)
          · rw [if_pos c6] at H
            have c6b0 : decide (0 ≤ (ji5)) = true := decide_eq_true c6
            clear c6
            by_cases c7 : (ji5) < (l0.length : Int)
            · rw [if_pos c7] at H
              have c7b0 : decide ((ji5) < (l0.length : Int)) = true := decide_eq_true c7
              clear c7
              have H' := Aside0.mk H
              clear H
              have p179 : 0 ≤ ((ji5) : Int) := of_decide_eq_true (by first | (with_reducible assumption) | assumption)
              have q179 : (ji5) < (l0.length : Int) := of_decide_eq_true (by first | (with_reducible assumption) | assumption)
              obtain ⟨ad179, e179, hx179_0⟩ := Kd.at_int HR0.out (ji5) p179 q179
              cases e179
              replace p179 := eq_true p179
              replace q179 := eq_true q179
              go_wp2
              go_roundg k1
              case measure => have := HK1.out; omega
              case rel => exact ⟨(Go.bits .or .u64 (IntKind.u64.wrap (x5_1 * 256)) (IntKind.u64.wrap (rd l0 (ji5)))), (wrap64 (x9_1 + 1)), (by first | rfl | (simp; done) | (simp only [← hji5] <;> (first | rfl | simp)) | (simp [*]; done)), (by first | rfl | (simp; done) | (simp [*]; done)), H', ⟨by have := HK1.out; omega⟩, by repeat (first | exact Drawn0.refl _ | apply Drawn0.step)⟩
            · rw [if_neg c7] at H
              exact absurd H (by simp)
          · rw [if_neg c6] at H
            exact absurd H (by simp)
        · replace c4 := Bool.eq_false_iff.mpr c4
          subst c4
          have H1 : (if 0 ≤ x9_1 then (if x9_1 < (l0.length : Int) then (wide_Get.l0 k1 l0 false (Go.bits .or .u64 (IntKind.u64.wrap (x5_1 * 256)) (IntKind.u64.wrap (rd l0 x9_1))) (l0.length : Int) (wrap64 (x9_1 + 1))) else (none)) else (none)) = some r := by rw [if_neg (show ¬ (false = true) by decide)] at H; exact H
          clear H
          have H := H1
          clear H1
          by_cases c8 : 0 ≤ x9_1
          · rw [if_pos c8] at H
            have c8b0 : decide (0 ≤ x9_1) = true := decide_eq_true c8
            clear c8
            by_cases c9 : x9_1 < (l0.length : Int)
            · rw [if_pos c9] at H
              have c9b0 : decide (x9_1 < (l0.length : Int)) = true := decide_eq_true c9
              clear c9
              have H' := Aside0.mk H
              clear H
              have p180 : 0 ≤ (x9_1 : Int) := of_decide_eq_true (by first | (with_reducible assumption) | assumption)
              have q180 : x9_1 < (l0.length : Int) := of_decide_eq_true (by first | (with_reducible assumption) | assumption)
              obtain ⟨ad180, e180, hx180_0⟩ := Kd.at_int HR0.out x9_1 p180 q180
              cases e180
              replace p180 := eq_true p180
              replace q180 := eq_true q180
              go_wp2
              go_roundg k1
              case measure => have := HK1.out; omega
              case rel => exact ⟨(Go.bits .or .u64 (IntKind.u64.wrap (x5_1 * 256)) (IntKind.u64.wrap (rd l0 x9_1))), (wrap64 (x9_1 + 1)), (by first | rfl | (simp; done) | (simp [*]; done)), (by first | rfl | (simp; done) | (simp [*]; done)), H', ⟨by have := HK1.out; omega⟩, by repeat (first | exact Drawn0.refl _ | apply Drawn0.step)⟩
            · rw [if_neg c9] at H
              exact absurd H (by simp)
          · rw [if_neg c8] at H
            exact absurd H (by simp)
      · rw [if_neg c3] at H
        have c3b0 : decide (x9_1 < (l0.length : Int)) = false := decide_eq_false c3
        clear c3
        obtain rfl := Option.some.inj H
        go_wp2
        go_ret
        exact ⟨by first | rfl | (simp; done) | (simp [*]; done), by repeat (first | exact Drawn0.refl _ | apply Drawn0.step)⟩

end Go.Proofs.Ytphkkdjinehhoaa.G
