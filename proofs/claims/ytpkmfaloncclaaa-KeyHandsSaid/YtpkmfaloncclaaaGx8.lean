/- Laid by a program of this repo over the translation: each Go function as a plain Lean function with the proof that the call comes to its answers, or a statement's row out of these; conditions: the hypotheses of each theorem. -/
import Derived.Test.YtpkmfaloncclaaaGx0
import Derived.Test.YtpkmfaloncclaaaGx1
import Derived.Test.YtpkmfaloncclaaaGx2
import Derived.Test.YtpkmfaloncclaaaGx3
import Derived.Test.YtpkmfaloncclaaaGx7
namespace Go.Proofs.Ytpkmfaloncclaaa.G
open Go.RowKit Go.Proofs.YtpkmfaloncclaaaW.PrintWords Go.Proofs.YtpkmfaloncclaaaW.PrintLast Go.Proofs.YtpkmfaloncclaaaW.PrintMore
attribute [local go_sem] max2_int min2_int max_two min_two max_three min_three max_four min_four   -- for this text's walks alone
set_option linter.unusedVariables false
set_option linter.unusedSimpArgs false

/-! ### wireglassref21_Tag: function 13 -/
def wireglassref21_Tag.f (l0 : List Int) (l1 : List Int) : Option (List Int × Int) := if (l0.length : Int) = 16 then (if (l1.length : Int) > 131072 then (some (([] : List Int), 3)) else ((wireglassref21_tag.f l0 l1).bind fun t192 => (some (t192, 0)))) else (some (([] : List Int), 1))
set_option maxHeartbeats 8000000 in
set_option maxRecDepth 100000 in
theorem wireglassref21_Tag.calls (A0 : Option Addr) (c0 : Nat) (l0 : List Int) (A1 : Option Addr) (c1 : Nat) (l1 : List Int) (r1 : List Int) (r2 : Int) (w : World) (hr0 : Kd.C (Kd.int .u8) w A0 l0.length l0) (hc0 : l0.length ≤ c0) (hr1 : Kd.C (Kd.int .u8) w A1 l1.length l1) (hc1 : l1.length ≤ c1) (h : wireglassref21_Tag.f l0 l1 = some (r1, r2)) :
    Calls Try.prog 13 #[.slice A0 l0.length c0, .slice A1 l1.length c1] w fun e w' => ∃ v0_ : Value, e = .returned (.tuple #[v0_, .int .i64 r2]) ∧ Kd.R (Kd.int .u8) 5 w' w.heap.size (fun _ => True) v0_ r1 ∧ Below w.heap.size w w' := by
  have HR0 := Aside0.mk hr0
  have HC0 := Aside0.mk hc0
  clear hr0 hc0
  have HR1 := Aside0.mk hr1
  have HC1 := Aside0.mk hc1
  clear hr1 hc1
  have HB := Aside0.mk (Below.refl w.heap.size w)
  have H : (if (l0.length : Int) = 16 then (if (l1.length : Int) > 131072 then (some (([] : List Int), 3)) else ((wireglassref21_tag.f l0 l1).bind fun t192 => (some (t192, 0)))) else (some (([] : List Int), 1))) = some (r1, r2) := h
  clear h
  by_cases c3 : (l0.length : Int) = 16
  · rw [if_pos c3] at H
    have c3b0 : ((l0.length : Int) == 16) = true := beq_iff_eq.mpr c3
    have c3b1 : ((l0.length : Int) != 16) = false := bne_eq_false_iff_eq.mpr c3
    clear c3
    by_cases c4 : (l1.length : Int) > 131072
    · rw [if_pos c4] at H
      have c4b0 : decide (131072 < (l1.length : Int)) = true := decide_eq_true c4
      have c4b1 : decide (131072 < l1.length) = true := decide_eq_true (by omega)
      clear c4
      simp only [Option.some.injEq, Prod.mk.injEq] at H
      obtain ⟨rfl, rfl⟩ := H
      go_enter Try.func13, Try.ntmps13
      go_wp2
      go_ret2
      exact ⟨_, by first | rfl | (simp [errW_none, errW_some] <;> rfl) | (simp [*, errW_none, errW_some] <;> rfl), by first | exact Kd.R_nil _ _ _ _ _ | exact Kd.N_nil _ _ _ _ _ | exact Kd.V_nil _ _ _ _ _ | exact Kd.Q_nil _ _ _ _ _ | exact Kd.S_nil _ _ _ _ _, by repeat (first | (with_reducible first | exact HB.out | apply below_alloc | apply pw_below_drewN | apply below_drew1) | exact HB.out)⟩
    · rw [if_neg c4] at H
      have c4b0 : decide (131072 < (l1.length : Int)) = false := decide_eq_false c4
      have c4b1 : decide (131072 < l1.length) = false := decide_eq_false (by omega)
      clear c4
      replace H := Option.bind_eq_some_iff.mp H
      obtain ⟨t192, A50, H⟩ := H
      replace H : (some (t192, 0)) = some (r1, r2) := H
      have A5 := Aside0.mk A50
      clear A50
      simp only [Option.some.injEq, Prod.mk.injEq] at H
      obtain ⟨rfl, rfl⟩ := H
      go_enter Try.func13, Try.ntmps13
      go_wp2_with (first | ((with_reducible refine gate_callee (f := 38) rfl ?_); refine goesL_ (some 14) rfl rfl Try.func38 (by kernel_rfl) rfl #[.slice A0 l0.length c0, .slice A1 l1.length c1] rfl (by (try simp only [List.map_toArray, List.map_cons, List.map_nil]); first | done | rfl | (simp only [List.length_drop, List.length_take]; rfl)) ?_; (with_reducible refine (wireglassref21_tag.calls _ _ l0 _ _ l1 t192 _ ?side1 ?side2 ?side3 ?side4 A5.out).mono ?_); (case side1 => repeat (first | exact HR0.out | (with_reducible refine Kd.C_alloc ?_ _) | (with_reducible refine Kd.C_drewN ?_ _) | (with_reducible refine Kd.C_drew ?_))); (case side2 => exact HC0.out); (case side3 => repeat (first | exact HR1.out | (with_reducible refine Kd.C_alloc ?_ _) | (with_reducible refine Kd.C_drewN ?_ _) | (with_reducible refine Kd.C_drew ?_))); (case side4 => exact HC1.out); rintro e w6 ⟨v193, rfl, ho0, hb⟩; refine ⟨_, rfl, ?_⟩; have n0_ := Aside0.mk (Kd.R_lower ho0 (below_size (by repeat (first | (with_reducible first | exact HB.out | apply below_alloc | apply pw_below_drewN | apply below_drew1) | exact HB.out)))); have n1_ := Aside0.mk (below_step (by repeat (first | (with_reducible first | exact HB.out | apply below_alloc | apply pw_below_drewN | apply below_drew1) | exact HB.out)) hb); clear HB; have HO194 := n0_; have HB := n1_; clear n0_ n1_; (try clear hb); (try clear hb2); (try clear hk); (try clear hi); (try clear ho0)))
      go_ret2
      exact ⟨_, by first | rfl | (simp [errW_none, errW_some] <;> rfl) | (simp [*, errW_none, errW_some] <;> rfl), by (with_reducible repeat (first | apply Kd.R_alloc | apply Kd.R_drewN | apply Kd.R_drew)); exact HO194.out, by repeat (first | (with_reducible first | exact HB.out | apply below_alloc | apply pw_below_drewN | apply below_drew1) | exact HB.out)⟩
  · rw [if_neg c3] at H
    have c3b0 : ((l0.length : Int) == 16) = false := beq_eq_false_iff_ne.mpr c3
    have c3b1 : ((l0.length : Int) != 16) = true := bne_iff_ne.mpr c3
    simp only [Option.some.injEq, Prod.mk.injEq] at H
    obtain ⟨rfl, rfl⟩ := H
    go_enter Try.func13, Try.ntmps13
    go_wp2
    go_ret2
    exact ⟨_, by first | rfl | (simp [errW_none, errW_some] <;> rfl) | (simp [*, errW_none, errW_some] <;> rfl), by first | exact Kd.R_nil _ _ _ _ _ | exact Kd.N_nil _ _ _ _ _ | exact Kd.V_nil _ _ _ _ _ | exact Kd.Q_nil _ _ _ _ _ | exact Kd.S_nil _ _ _ _ _, by repeat (first | (with_reducible first | exact HB.out | apply below_alloc | apply pw_below_drewN | apply below_drew1) | exact HB.out)⟩

/-! ### key_isSecret: function 39 -/
def key_isSecret.f (l0 : List Int) : Option (Bool) := if (l0.length : Int) ≥ 1 then (some (decide ((l0.length : Int) ≤ 200))) else (some false)
set_option maxHeartbeats 8000000 in
set_option maxRecDepth 100000 in
theorem key_isSecret.calls (A0 : Option Addr) (c0 : Nat) (l0 : List Int) (r : Bool) (w : World) (hr0 : Kd.C (Kd.int .u8) w A0 l0.length l0) (hc0 : l0.length ≤ c0) (h : key_isSecret.f l0 = some r) :
    Calls Try.prog 39 #[.slice A0 l0.length c0] w fun e w' => e = .returned (.bool r) ∧ Drawn0 w w' := by
  have HR0 := Aside0.mk hr0
  have HC0 := Aside0.mk hc0
  clear hr0 hc0
  have H : (if (l0.length : Int) ≥ 1 then (some (decide ((l0.length : Int) ≤ 200))) else (some false)) = some r := h
  clear h
  by_cases c2 : (l0.length : Int) ≥ 1
  · rw [if_pos c2] at H
    have c2b0 : decide (1 ≤ (l0.length : Int)) = true := decide_eq_true c2
    have c2b1 : decide (1 ≤ l0.length) = true := decide_eq_true (by omega)
    clear c2
    obtain rfl := Option.some.inj H
    go_enter Try.func39, Try.ntmps39
    go_wp2
    go_ret
    exact ⟨by first | rfl | (simp; done) | (simp [*]; done), by repeat (first | exact Drawn0.refl _ | apply Drawn0.step)⟩
  · rw [if_neg c2] at H
    have c2b0 : decide (1 ≤ (l0.length : Int)) = false := decide_eq_false c2
    have c2b1 : decide (1 ≤ l0.length) = false := decide_eq_false (by omega)
    clear c2
    obtain rfl := Option.some.inj H
    go_enter Try.func39, Try.ntmps39
    go_wp2
    go_ret
    exact ⟨by first | rfl | (simp; done) | (simp [*]; done), by repeat (first | exact Drawn0.refl _ | apply Drawn0.step)⟩

/-! ### key_derived: function 40 -/
-- EXT rounds=0 making=1
/-- The key that is made of a secret and a salt. -/
def key16 (s : List Int) : List Int := s.take 16 ++ List.replicate (16 - s.length) 0
def derN (s t : List Int) : Nat → List Int
  | 0 => []
  | i + 1 => derN s t i ++ tagOf (key16 s) ([((i + 1 : Nat) : Int)] ++ s ++ [0] ++ t)
def derOk (s t : List Int) : Prop := (s.length ≤ 1000000 ∧ t.length ≤ 1000000) ∧ (s.all isByteK = true ∧ t.all isByteK = true)
instance (s t : List Int) : Decidable (derOk s t) := by unfold derOk; infer_instance
def key_derived.f (l0 l1 : List Int) : Option (List Int) := if derOk l0 l1 then some (derN l0 l1 4) else none
theorem key16_length (s : List Int) : (key16 s).length = 16 := by unfold key16; rw [List.length_append, List.length_take, List.length_replicate]; omega
theorem key16_byte {s : List Int} (h : ByteL s) : ByteL (key16 s) := by
  intro x hx
  unfold key16 at hx
  rcases List.mem_append.1 hx with hx | hx
  · exact h x (List.mem_of_mem_take hx)
  · obtain ⟨_, rfl⟩ := List.mem_replicate.1 hx
    omega
theorem allB {l : List Int} (h : ByteL l) : l.all isByteK = true := List.all_eq_true.2 fun x hx => by
  have := h x hx
  simp [isByteK, this.1, this.2]
theorem lowN_byteL : ∀ (n : Nat) (v : Int), ByteL (lowN n v)
  | 0, _ => by intro x hx; cases hx
  | n + 1, v => by
    intro x hx
    rw [lowN] at hx
    rcases List.mem_cons.1 hx with rfl | hx
    · omega
    · exact lowN_byteL n _ x hx
theorem tagOf_length (l0 l1 : List Int) : (tagOf l0 l1).length = 8 := lowN_length _ _
theorem tagOf_byte (l0 l1 : List Int) : ByteL (tagOf l0 l1) := lowN_byteL _ _
theorem derN_length (s t : List Int) : ∀ i, (derN s t i).length = 8 * i
  | 0 => rfl
  | i + 1 => by rw [derN, List.length_append, derN_length s t i, tagOf_length]; omega
theorem byteL_append {a b : List Int} (h : ByteL a) (h2 : ByteL b) : ByteL (a ++ b) := fun x hx => (List.mem_append.1 hx).elim (h x) (h2 x)
theorem byteL_one {x : Int} (h : 0 ≤ x) (h2 : x ≤ 255) : ByteL [x] := fun y hy => by rcases List.mem_singleton.1 hy with rfl; exact ⟨h, h2⟩
theorem derN_byte (s t : List Int) : ∀ i, ByteL (derN s t i)
  | 0 => by intro x hx; cases hx
  | i + 1 => byteL_append (derN_byte s t i) (tagOf_byte _ _)
theorem splice16 (l : List Int) : splice (nums .u8 (List.replicate 16 0)) 0 (nums .u8 (l.take 16)) = nums .u8 (key16 l) := by
  unfold splice nums key16
  rw [List.take_zero, List.nil_append, Nat.zero_add, List.length_map, List.map_append, ← List.map_drop, List.drop_replicate, List.length_take]
  congr 3
  omega
theorem tag_is {l0 l1 : List Int} (h0 : l0.length = 16) (hb : ByteL l0) (hb1 : ByteL l1) : key_tag.f l0 l1 = some (tagOf l0 l1) := by
  unfold key_tag.f
  rw [if_pos ⟨h0, allB hb, allB hb1⟩]
theorem copy_src16 {w : World} {A : Option Addr} {l : List Int} (h : ReadsOf (Value.int .u8) (0 : Int) w A l.length l) (h0 : 0 < l.length) : ∃ ad, A = some ad ∧ ∀ j v, (nums .u8 (l.take 16))[j]? = some v → w.cell? (ad.add j) = some v := by
  obtain ⟨ad, e, hc⟩ := copy_src h h0
  refine ⟨ad, e, fun j v hv => hc j v ?_⟩
  simp only [nums, List.map_take] at hv ⊢
  rw [List.getElem?_take] at hv
  split at hv
  · exact hv
  · cases hv
theorem key_tag.callsm (A0 : Option Addr) (c0 m0 : Nat) (l0 : List Int) (A1 : Option Addr) (c1 m1 : Nat) (l1 : List Int) (r : List Int) (w : World) (hm0 : l0.length = m0) (hm1 : l1.length = m1) (hr0 : Kd.C (Kd.int .u8) w A0 m0 l0) (hc0 : m0 ≤ c0) (hr1 : Kd.C (Kd.int .u8) w A1 m1 l1) (hc1 : m1 ≤ c1) (h : key_tag.f l0 l1 = some r) :
    Calls Try.prog 37 #[.slice A0 m0 c0, .slice A1 m1 c1] w fun e w' => ∃ v0_ : Value, e = .returned v0_ ∧ Kd.R (Kd.int .u8) 5 w' w.heap.size (fun _ => True) v0_ r ∧ Below w.heap.size w w' := by
  subst hm0 hm1
  exact key_tag.calls A0 c0 l0 A1 c1 l1 r w hr0 hc0 hr1 hc1 h
set_option maxHeartbeats 8000000 in
set_option maxRecDepth 100000 in
theorem key_derived.calls (A0 : Option Addr) (c0 : Nat) (l0 : List Int) (A1 : Option Addr) (c1 : Nat) (l1 : List Int) (r : List Int) (w : World) (hr0 : Kd.C (Kd.int .u8) w A0 l0.length l0) (hc0 : l0.length ≤ c0) (hr1 : Kd.C (Kd.int .u8) w A1 l1.length l1) (hc1 : l1.length ≤ c1) (h : key_derived.f l0 l1 = some r) :
    Calls Try.prog 40 #[.slice A0 l0.length c0, .slice A1 l1.length c1] w fun e w' => ∃ v0_ : Value, e = .returned v0_ ∧ Kd.R (Kd.int .u8) 5 w' w.heap.size (fun _ => True) v0_ r ∧ Below w.heap.size w w' := by
  have HR0 := Aside0.mk hr0
  have HC0 := Aside0.mk hc0
  have HR1 := Aside0.mk hr1
  have HC1 := Aside0.mk hc1
  have hq : derOk l0 l1 ∧ derN l0 l1 4 = r := by
    unfold key_derived.f at h
    split at h
    · rename_i hc
      cases h
      exact ⟨hc, rfl⟩
    · cases h
  clear h
  obtain ⟨⟨⟨hl0, hl1⟩, hb0, hb1⟩, he⟩ := hq
  have HY0 := Aside0.mk (byteL_all hb0)
  have HY1 := Aside0.mk (byteL_all hb1)
  have HL0 := Aside0.mk hl0
  have HL1 := Aside0.mk hl1
  have HE := Aside0.mk he
  clear hb0 hb1 he hc0 hr1 hc1 hl0 hl1
  obtain ⟨i1, hi1, _, hsz1, _⟩ := info_parts info5
  have hs1 : (Try.prog.info? 5).map (·.size) = some 1 := by rw [hi1, Option.map_some, hsz1]
  have hAl : (w.alloc (.cells (nums .u8 (List.replicate 16 0)).toArray 93)).heap[w.heap.size]? = some (.cells (nums .u8 (List.replicate 16 0)).toArray 93 (0, 0)) := heap_alloc_new _ _
  have hBl : Below w.heap.size w (w.alloc (.cells (nums .u8 (List.replicate 16 0)).toArray 93)) := below_alloc (Below.refl _ _) _
  have hcs : (nums .u8 (l0.take 16)).length = Nat.min l0.length 16 := by simp only [nums, List.length_map, List.length_take]; exact Nat.min_comm _ _
  have hsr := copy_src16 (Kd.reads_of_C (Kd.C_alloc hr0 (.cells (nums .u8 (List.replicate 16 0)).toArray 93)))
  have hpo : 0 < (nums .u8 (l0.take 16)).length → some (⟨w.heap.size, 0, none⟩ : Addr) = some ⟨w.heap.size, 0, none⟩ ∧ ∃ ad, A0 = some ad ∧ ∀ j v, (nums .u8 (l0.take 16))[j]? = some v → (w.alloc (.cells (nums .u8 (List.replicate 16 0)).toArray 93)).cell? (ad.add j) = some v := fun h0 => ⟨rfl, hsr (by rw [hcs] at h0; exact Nat.lt_of_lt_of_le h0 (Nat.min_le_left _ _))⟩
  have hfi : 0 + (nums .u8 (l0.take 16)).length ≤ (nums .u8 (List.replicate 16 0)).length := by rw [hcs, Nat.zero_add]; exact Nat.min_le_right _ _
  have hon : ∀ v ∈ nums .u8 (l0.take 16), v.oneCell' = true := by intro v hv; simp only [nums, List.mem_map] at hv; obtain ⟨a, _, rfl⟩ := hv; rfl
  have HSP := Aside0.mk (splice16 l0)
  clear hsr hi1 hsz1 hr0
  go_enter Try.func40, Try.ntmps40
  go_wp2_with ((with_reducible refine gate_builtin (b := .copy) (xs := #[.tmp 9, .tmp 10]) rfl ?_); go_loud (refine wpList_copy_splice rfl (.tmp 9) (.tmp 10) 22 22 rfl 5 Try.underlying22 hs1 _ A0 16 16 l0.length c0 rfl rfl w.heap.size 0 (nums .u8 (List.replicate 16 0)) 93 hAl (nums .u8 (l0.take 16)) hcs hpo hfi hon w.heap.size w hBl (Nat.le_refl _) ?_; intro W1 hh hb9; have hh2 := hh.out; rw [HSP.out] at hh2; have HH := Aside0.mk hh2; have HB1 := Aside0.mk hb9; clear hh hh2 hb9 hAl hBl hcs hpo hfi hon hs1))
  go_loopg [6, 12] 4 (fun q s6 s12 wx => ∃ i : Nat, i + q = 4 ∧ s12 = .int .i64 i ∧ Aside0 (Kd.R (Kd.int .u8) 5 wx W1.heap.size (fun _ => True) s6 (derN l0 l1 i)) ∧ Aside0 (Below W1.heap.size W1 wx))
  case atStart => exact ⟨0, by omega, rfl, ⟨Kd.R_nil _ _ _ _ _⟩, ⟨Below.refl _ _⟩⟩
  case round =>
    obtain ⟨i, hig, rfl, HO, HB⟩ := hrel
    cases gk with
    | succ q =>
      have hi : i < 4 := by omega
      have hi2 : (i : Int) < 4 := by omega
      have HI := Aside0.mk hi
      obtain ⟨j, hj⟩ : ∃ j : Nat, i + 1 = j := ⟨_, rfl⟩
      have e1 : IntKind.i64.wrap ((i : Int) + 1) = (j : Int) := by rw [i64_w, Hand.w64 (by omega) (by omega)]; omega
      have e2 : (j : Int) % 256 = (j : Int) := by omega
      have HJ := Aside0.mk hj
      have HJ0 : Aside0 (0 ≤ (j : Int) ∧ (j : Int) ≤ 255) := ⟨by omega⟩
      clear hj
      have HX : Aside0 (derN l0 l1 (i + 1) = derN l0 l1 i ++ tagOf (key16 l0) ([(j : Int)] ++ l0 ++ [0] ++ l1)) := ⟨by rw [← HJ.out]; rfl⟩
      have HT : Aside0 (key_tag.f (key16 l0) ([(j : Int)] ++ l0 ++ [0] ++ l1) = some (tagOf (key16 l0) ([(j : Int)] ++ l0 ++ [0] ++ l1))) := ⟨tag_is (key16_length _) (key16_byte HY0.out) (byteL_append (byteL_append (byteL_append (byteL_one HJ0.out.1 HJ0.out.2) HY0.out) (byteL_one (by decide) (by decide))) HY1.out)⟩
      have HBB : Aside0 (Below w.heap.size w wr) := ⟨HB1.out.trans (HB.out.mono HB1.out.size)⟩
      have HSA : Aside0 (w.heap.size ≤ W1.heap.size) := ⟨HB1.out.size⟩
      have HRW : Aside0 (Kd.C (Kd.int .u8) wr A0 l0.length l0) := ⟨Kd.C_below HR0.out HBB.out⟩
      have HRS : Aside0 (Kd.C (Kd.int .u8) wr A1 l1.length l1) := ⟨Kd.C_below HR1.out HBB.out⟩
      have HKW : Aside0 (wr.heap[w.heap.size]? = some (.cells (nums .u8 (key16 l0)).toArray 93 (0, 0))) := ⟨blk_below HH.out HB.out⟩
      go_wp2_with ((with_reducible refine gate_builtin (b := .append) (xs := #[.tmp 18, .tmp 19]) rfl ?_); at_builtin; refine Kd.R_append_rows (Kd.int .u8) (w0 := wr) wr.heap.size rfl (.tmp 18) (.tmp 19) 22 5 (.int .u8 0) 1 rfl Try.underlying22 info5 rfl (by decide) (by omega) _ [(j : Int)] l0 _ _ _ (fun _ => True) (fun _ => False) rfl rfl (lit_R wr wr.heap.size [(j : Int)] (Nat.le_refl _) (by simp)) (Kd.C_alloc HRW.out _) (fun _ _ h => h) (fun _ h => h.elim) (fun _ _ => trivial) (below_alloc (Below.refl _ _) _) ?aS ?aL ?_; (case aS => simp); (case aL => have h := HL0.out; clear e1 e2; simp only [List.length_cons, List.length_nil]; omega); intro v6 w6 ho hb _ _; have HO6 := Aside0.mk ho; have HB6 := Aside0.mk hb; clear ho hb)
      go_region_law (first
        | (refine Kd.R_append_rows_step (Kd.int .u8) (w0 := wr) wr.heap.size (by rfl) (.tmp 23) (.tmp 24) 22 5 (.int .u8 0) 1 rfl Try.underlying22 info5 rfl (by decide) (by omega) _ ([(j : Int)] ++ l0) [0] _ _ _ (fun _ => True) (fun _ => False) (by rfl) (by rfl) (by (with_reducible repeat (first | apply Kd.R_alloc | apply Kd.R_drewN | apply Kd.R_drew)); exact HO6.out) (Kd.C_drew (Kd.R_reads' (lit_R w6 w6.heap.size [0] (Nat.le_refl _) (by simp))).2.2) (fun _ _ h => h) (fun _ h => h.elim) (fun _ _ => trivial) (by repeat (first | (with_reducible first | exact HB6.out | apply below_alloc | apply pw_below_drewN | apply below_drew1) | exact HB6.out)) ?aS ?aL ?_; (case aS => have h := HB6.out.size; simp; omega); (case aL => have h := HL0.out; clear e1 e2; simp only [List.length_append, List.length_cons, List.length_nil]; omega); intro v7 w7 ho hb _ _; have HO7 := Aside0.mk ho; have HB7 := Aside0.mk hb; clear ho hb)
        | (refine Kd.R_append_rows_step (Kd.int .u8) (w0 := wr) wr.heap.size (by rfl) (.tmp 25) (.tmp 26) 22 5 (.int .u8 0) 1 rfl Try.underlying22 info5 rfl (by decide) (by omega) _ ([(j : Int)] ++ l0 ++ [0]) l1 _ _ _ (fun _ => True) (fun _ => False) (by rfl) (by rfl) HO7.out (Kd.C_below HRS.out HB7.out) (fun _ _ h => h) (fun _ h => h.elim) (fun _ _ => trivial) HB7.out ?aS ?aL ?_; (case aS => exact HB7.out.size); (case aL => have h := HL0.out; have h2 := HL1.out; clear e1 e2; simp only [List.length_append, List.length_cons, List.length_nil]; omega); intro v8 w8 ho hb _ _; obtain ⟨m8, hm8⟩ : ∃ m, ([(j : Int)] ++ l0 ++ [0] ++ l1).length = m := ⟨_, rfl⟩; obtain ⟨A8, c8, e8⟩ := Kd.R_slice ho; rw [hm8] at e8; subst e8; have HO8 := Aside0.mk ho; have HB8 := Aside0.mk hb; have HM8 := Aside0.mk hm8; clear ho hb hm8)
        | (refine goes_ Try.func37 (by kernel_rfl) rfl #[.slice (some ⟨w.heap.size, 0, none⟩) 16 16, .slice A8 m8 c8] (by rfl) rfl rfl (by simp only [List.map_toArray, List.map_cons, List.map_nil]; rfl) ?_; (with_reducible refine (key_tag.callsm _ _ 16 (key16 l0) _ _ m8 _ _ _ ?sidem ?sidem2 ?side1 ?side2 ?side3 ?side4 HT.out).mono ?_); (case sidem => exact key16_length _); (case sidem2 => exact HM8.out); (case side1 => have h := blk_C (blk_below HKW.out HB8.out) (by rw [key16_length]; decide); rw [key16_length] at h; exact h); (case side2 => exact Nat.le_refl _); (case side3 => have h := (Kd.R_reads' HO8.out).2.2; rw [HM8.out] at h; exact h); (case side4 => exact (Kd.R_reads' HO8.out).2.1); rintro e w9 ⟨v9, rfl, ho, hb⟩; obtain ⟨A9, c9, e9⟩ := Kd.R_slice ho; rw [tagOf_length] at e9; subst e9; have HO9 := Aside0.mk ho; have HB9 : Aside0 (Below wr.heap.size wr w9) := ⟨HB8.out.trans (hb.mono HB8.out.size)⟩; clear ho hb; refine ⟨_, rfl, ?_⟩)
        | (refine Kd.R_append_rows_step (Kd.int .u8) (w0 := W1) W1.heap.size (by rfl) (.tmp 21) (.tmp 28) 22 5 (.int .u8 0) 1 rfl Try.underlying22 info5 rfl (by decide) (by omega) _ (derN l0 l1 i) (tagOf (key16 l0) ([(j : Int)] ++ l0 ++ [0] ++ l1)) _ _ _ (fun _ => True) (fun _ => False) (by rfl) (by rfl) (Kd.R_below HO.out HB9.out) ?aR (fun _ _ h => h) (fun _ h => h.elim) (fun _ _ => trivial) (HB.out.trans (HB9.out.mono HB.out.size)) ?aS ?aL ?_; (case aR => have h := (Kd.R_reads' HO9.out).2.2; rw [tagOf_length] at h; exact h); (case aS => exact Nat.le_trans HB.out.size HB9.out.size); (case aL => rw [derN_length]; have h := HI.out; clear e1 e2; omega); intro v10 w10 ho hb _ _; rw [← HX.out] at ho; have HO10 := Aside0.mk ho; have HB10 := Aside0.mk hb; clear ho hb))
      go_wp2
      clear e1 e2
      go_roundg q
      case measure => omega
      case rel => exact ⟨i + 1, by omega, by first | (rw [HJ.out]; done) | (rw [HJ.out]; rfl) | rfl | simp, HO10, HB10⟩
    | zero =>
      obtain rfl : i = 4 := by omega
      go_wp2
      go_ret
      exact ⟨_, rfl, by rw [← HE.out]; exact Kd.R_lower HO.out HB1.out.size, HB1.out.trans (HB.out.mono HB1.out.size)⟩

/-! ### key_Make: function 14 -/
def key_Make.f (l0 : List Int) (l1 : List Int) : Option (List Int × Int) := (key_isSecret.f l0).bind fun t195 => (if t195 = true then (if (l1.length : Int) > 200 then (some (([] : List Int), 1)) else ((key_derived.f l0 l1).bind fun t196 => (some (t196, 0)))) else (some (([] : List Int), 1)))
set_option maxHeartbeats 8000000 in
set_option maxRecDepth 100000 in
theorem key_Make.calls (A0 : Option Addr) (c0 : Nat) (l0 : List Int) (A1 : Option Addr) (c1 : Nat) (l1 : List Int) (r1 : List Int) (r2 : Int) (w : World) (hr0 : Kd.C (Kd.int .u8) w A0 l0.length l0) (hc0 : l0.length ≤ c0) (hr1 : Kd.C (Kd.int .u8) w A1 l1.length l1) (hc1 : l1.length ≤ c1) (h : key_Make.f l0 l1 = some (r1, r2)) :
    Calls Try.prog 14 #[.slice A0 l0.length c0, .slice A1 l1.length c1] w fun e w' => ∃ v0_ : Value, e = .returned (.tuple #[v0_, .int .i64 r2]) ∧ Kd.R (Kd.int .u8) 5 w' w.heap.size (fun _ => True) v0_ r1 ∧ Below w.heap.size w w' := by
  have HR0 := Aside0.mk hr0
  have HC0 := Aside0.mk hc0
  clear hr0 hc0
  have HR1 := Aside0.mk hr1
  have HC1 := Aside0.mk hc1
  clear hr1 hc1
  have HB := Aside0.mk (Below.refl w.heap.size w)
  have H : ((key_isSecret.f l0).bind fun t195 => (if t195 = true then (if (l1.length : Int) > 200 then (some (([] : List Int), 1)) else ((key_derived.f l0 l1).bind fun t196 => (some (t196, 0)))) else (some (([] : List Int), 1)))) = some (r1, r2) := h
  clear h
  replace H := Option.bind_eq_some_iff.mp H
  obtain ⟨t195, A30, H⟩ := H
  replace H : (if t195 = true then (if (l1.length : Int) > 200 then (some (([] : List Int), 1)) else ((key_derived.f l0 l1).bind fun t196 => (some (t196, 0)))) else (some (([] : List Int), 1))) = some (r1, r2) := H
  have A3 := Aside0.mk A30
  clear A30
  by_cases c4 : t195 = true
  · subst c4
    have H1 : (if (l1.length : Int) > 200 then (some (([] : List Int), 1)) else ((key_derived.f l0 l1).bind fun t196 => (some (t196, 0)))) = some (r1, r2) := by rw [if_pos rfl] at H; exact H
    clear H
    have H := H1
    clear H1
    by_cases c5 : (l1.length : Int) > 200
    · rw [if_pos c5] at H
      have c5b0 : decide (200 < (l1.length : Int)) = true := decide_eq_true c5
      have c5b1 : decide (200 < l1.length) = true := decide_eq_true (by omega)
      clear c5
      simp only [Option.some.injEq, Prod.mk.injEq] at H
      obtain ⟨rfl, rfl⟩ := H
      go_enter Try.func14, Try.ntmps14
      go_wp2_with (first | ((with_reducible refine gate_callee (f := 39) rfl ?_); refine goesL_ (some 7) rfl rfl Try.func39 (by kernel_rfl) rfl #[.slice A0 l0.length c0] rfl (by (try simp only [List.map_toArray, List.map_cons, List.map_nil]); first | done | rfl | (simp only [List.length_drop, List.length_take]; rfl)) ?_; (with_reducible refine (key_isSecret.calls _ _ l0 true _ ?side1 ?side2 A3.out).mono ?_); (case side1 => repeat (first | exact HR0.out | (with_reducible refine Kd.C_alloc ?_ _) | (with_reducible refine Kd.C_drewN ?_ _) | (with_reducible refine Kd.C_drew ?_))); (case side2 => exact HC0.out); rintro e w' ⟨rfl, ⟨nd, rfl⟩⟩; refine ⟨_, rfl, ?_⟩))
      go_ret2
      exact ⟨_, by first | rfl | (simp [errW_none, errW_some] <;> rfl) | (simp [*, errW_none, errW_some] <;> rfl), by first | exact Kd.R_nil _ _ _ _ _ | exact Kd.N_nil _ _ _ _ _ | exact Kd.V_nil _ _ _ _ _ | exact Kd.Q_nil _ _ _ _ _ | exact Kd.S_nil _ _ _ _ _, by repeat (first | (with_reducible first | exact HB.out | apply below_alloc | apply pw_below_drewN | apply below_drew1) | exact HB.out)⟩
    · rw [if_neg c5] at H
      have c5b0 : decide (200 < (l1.length : Int)) = false := decide_eq_false c5
      have c5b1 : decide (200 < l1.length) = false := decide_eq_false (by omega)
      clear c5
      replace H := Option.bind_eq_some_iff.mp H
      obtain ⟨t196, A60, H⟩ := H
      replace H : (some (t196, 0)) = some (r1, r2) := H
      have A6 := Aside0.mk A60
      clear A60
      simp only [Option.some.injEq, Prod.mk.injEq] at H
      obtain ⟨rfl, rfl⟩ := H
      go_enter Try.func14, Try.ntmps14
      go_wp2_with (first | ((with_reducible refine gate_callee (f := 39) rfl ?_); refine goesL_ (some 7) rfl rfl Try.func39 (by kernel_rfl) rfl #[.slice A0 l0.length c0] rfl (by (try simp only [List.map_toArray, List.map_cons, List.map_nil]); first | done | rfl | (simp only [List.length_drop, List.length_take]; rfl)) ?_; (with_reducible refine (key_isSecret.calls _ _ l0 true _ ?side1 ?side2 A3.out).mono ?_); (case side1 => repeat (first | exact HR0.out | (with_reducible refine Kd.C_alloc ?_ _) | (with_reducible refine Kd.C_drewN ?_ _) | (with_reducible refine Kd.C_drew ?_))); (case side2 => exact HC0.out); rintro e w' ⟨rfl, ⟨nd, rfl⟩⟩; refine ⟨_, rfl, ?_⟩) | ((with_reducible refine gate_callee (f := 40) rfl ?_); refine goesL_ (some 16) rfl rfl Try.func40 (by kernel_rfl) rfl #[.slice A0 l0.length c0, .slice A1 l1.length c1] rfl (by (try simp only [List.map_toArray, List.map_cons, List.map_nil]); first | done | rfl | (simp only [List.length_drop, List.length_take]; rfl)) ?_; (with_reducible refine (key_derived.calls _ _ l0 _ _ l1 t196 _ ?side1 ?side2 ?side3 ?side4 A6.out).mono ?_); (case side1 => repeat (first | exact HR0.out | (with_reducible refine Kd.C_alloc ?_ _) | (with_reducible refine Kd.C_drewN ?_ _) | (with_reducible refine Kd.C_drew ?_))); (case side2 => exact HC0.out); (case side3 => repeat (first | exact HR1.out | (with_reducible refine Kd.C_alloc ?_ _) | (with_reducible refine Kd.C_drewN ?_ _) | (with_reducible refine Kd.C_drew ?_))); (case side4 => exact HC1.out); rintro e w7 ⟨v197, rfl, ho0, hb⟩; refine ⟨_, rfl, ?_⟩; have n0_ := Aside0.mk (Kd.R_lower ho0 (below_size (by repeat (first | (with_reducible first | exact HB.out | apply below_alloc | apply pw_below_drewN | apply below_drew1) | exact HB.out)))); have n1_ := Aside0.mk (below_step (by repeat (first | (with_reducible first | exact HB.out | apply below_alloc | apply pw_below_drewN | apply below_drew1) | exact HB.out)) hb); clear HB; have HO198 := n0_; have HB := n1_; clear n0_ n1_; (try clear hb); (try clear hb2); (try clear hk); (try clear hi); (try clear ho0)))
      go_ret2
      exact ⟨_, by first | rfl | (simp [errW_none, errW_some] <;> rfl) | (simp [*, errW_none, errW_some] <;> rfl), by (with_reducible repeat (first | apply Kd.R_alloc | apply Kd.R_drewN | apply Kd.R_drew)); exact HO198.out, by repeat (first | (with_reducible first | exact HB.out | apply below_alloc | apply pw_below_drewN | apply below_drew1) | exact HB.out)⟩
  · replace c4 := Bool.eq_false_iff.mpr c4
    subst c4
    have H1 : (some (([] : List Int), 1)) = some (r1, r2) := by rw [if_neg (show ¬ (false = true) by decide)] at H; exact H
    clear H
    have H := H1
    clear H1
    simp only [Option.some.injEq, Prod.mk.injEq] at H
    obtain ⟨rfl, rfl⟩ := H
    go_enter Try.func14, Try.ntmps14
    go_wp2_with (first | ((with_reducible refine gate_callee (f := 39) rfl ?_); refine goesL_ (some 7) rfl rfl Try.func39 (by kernel_rfl) rfl #[.slice A0 l0.length c0] rfl (by (try simp only [List.map_toArray, List.map_cons, List.map_nil]); first | done | rfl | (simp only [List.length_drop, List.length_take]; rfl)) ?_; (with_reducible refine (key_isSecret.calls _ _ l0 false _ ?side1 ?side2 A3.out).mono ?_); (case side1 => repeat (first | exact HR0.out | (with_reducible refine Kd.C_alloc ?_ _) | (with_reducible refine Kd.C_drewN ?_ _) | (with_reducible refine Kd.C_drew ?_))); (case side2 => exact HC0.out); rintro e w' ⟨rfl, ⟨nd, rfl⟩⟩; refine ⟨_, rfl, ?_⟩))
    go_ret2
    exact ⟨_, by first | rfl | (simp [errW_none, errW_some] <;> rfl) | (simp [*, errW_none, errW_some] <;> rfl), by first | exact Kd.R_nil _ _ _ _ _ | exact Kd.N_nil _ _ _ _ _ | exact Kd.V_nil _ _ _ _ _ | exact Kd.Q_nil _ _ _ _ _ | exact Kd.S_nil _ _ _ _ _, by repeat (first | (with_reducible first | exact HB.out | apply below_alloc | apply pw_below_drewN | apply below_drew1) | exact HB.out)⟩

/-! ### wireglassref21_isText: function 41 -/
def wireglassref21_isText.f (l0 : List Int) : Option (Bool) := if (l0.length : Int) ≥ 1 then (some (decide ((l0.length : Int) ≤ 200))) else (some false)
set_option maxHeartbeats 8000000 in
set_option maxRecDepth 100000 in
theorem wireglassref21_isText.calls (A0 : Option Addr) (c0 : Nat) (l0 : List Int) (r : Bool) (w : World) (hr0 : Kd.C (Kd.int .u8) w A0 l0.length l0) (hc0 : l0.length ≤ c0) (h : wireglassref21_isText.f l0 = some r) :
    Calls Try.prog 41 #[.slice A0 l0.length c0] w fun e w' => e = .returned (.bool r) ∧ Drawn0 w w' := by
  have HR0 := Aside0.mk hr0
  have HC0 := Aside0.mk hc0
  clear hr0 hc0
  have H : (if (l0.length : Int) ≥ 1 then (some (decide ((l0.length : Int) ≤ 200))) else (some false)) = some r := h
  clear h
  by_cases c2 : (l0.length : Int) ≥ 1
  · rw [if_pos c2] at H
    have c2b0 : decide (1 ≤ (l0.length : Int)) = true := decide_eq_true c2
    have c2b1 : decide (1 ≤ l0.length) = true := decide_eq_true (by omega)
    clear c2
    obtain rfl := Option.some.inj H
    go_enter Try.func41, Try.ntmps41
    go_wp2
    go_ret
    exact ⟨by first | rfl | (simp; done) | (simp [*]; done), by repeat (first | exact Drawn0.refl _ | apply Drawn0.step)⟩
  · rw [if_neg c2] at H
    have c2b0 : decide (1 ≤ (l0.length : Int)) = false := decide_eq_false c2
    have c2b1 : decide (1 ≤ l0.length) = false := decide_eq_false (by omega)
    clear c2
    obtain rfl := Option.some.inj H
    go_enter Try.func41, Try.ntmps41
    go_wp2
    go_ret
    exact ⟨by first | rfl | (simp; done) | (simp [*]; done), by repeat (first | exact Drawn0.refl _ | apply Drawn0.step)⟩

/-! ### wireglassref21_Make: function 15 -/
-- EXT rounds=0 making=1
def makeOk (s t : List Int) : Prop := (1 ≤ s.length ∧ s.length ≤ 200) ∧ t.length ≤ 200
instance (s t : List Int) : Decidable (makeOk s t) := by unfold makeOk; infer_instance
def wireglassref21_Make.f (l0 l1 : List Int) : Option (List Int × Int) := if l0.all isByteK = true ∧ l1.all isByteK = true then some (if makeOk l0 l1 then (derN l0 l1 4, 0) else ([], 1)) else none
theorem rtag_is {l0 l1 : List Int} (h0 : l0.length = 16) (hb : ByteL l0) (hb1 : ByteL l1) : wireglassref21_tag.f l0 l1 = some (tagOf l0 l1) := by
  unfold wireglassref21_tag.f
  rw [if_pos ⟨h0, allB hb, allB hb1⟩]
theorem isText_is (l : List Int) : wireglassref21_isText.f l = some (decide (1 ≤ l.length ∧ l.length ≤ 200)) := by
  unfold wireglassref21_isText.f
  by_cases h : (l.length : Int) ≥ 1
  · rw [if_pos h]; congr 1; rw [decide_eq_decide]; omega
  · rw [if_neg h]; congr 1; rw [eq_comm, decide_eq_false_iff_not]; omega
theorem ref_tag.callsm (A0 : Option Addr) (c0 m0 : Nat) (l0 : List Int) (A1 : Option Addr) (c1 m1 : Nat) (l1 : List Int) (r : List Int) (w : World) (hm0 : l0.length = m0) (hm1 : l1.length = m1) (hr0 : Kd.C (Kd.int .u8) w A0 m0 l0) (hc0 : m0 ≤ c0) (hr1 : Kd.C (Kd.int .u8) w A1 m1 l1) (hc1 : m1 ≤ c1) (h : wireglassref21_tag.f l0 l1 = some r) :
    Calls Try.prog 38 #[.slice A0 m0 c0, .slice A1 m1 c1] w fun e w' => ∃ v0_ : Value, e = .returned v0_ ∧ Kd.R (Kd.int .u8) 5 w' w.heap.size (fun _ => True) v0_ r ∧ Below w.heap.size w w' := by
  subst hm0 hm1
  exact wireglassref21_tag.calls A0 c0 l0 A1 c1 l1 r w hr0 hc0 hr1 hc1 h
set_option maxHeartbeats 8000000 in
set_option maxRecDepth 100000 in
theorem wireglassref21_Make.calls (A0 : Option Addr) (c0 : Nat) (l0 : List Int) (A1 : Option Addr) (c1 : Nat) (l1 : List Int) (r1 : List Int) (r2 : Int) (w : World) (hr0 : Kd.C (Kd.int .u8) w A0 l0.length l0) (hc0 : l0.length ≤ c0) (hr1 : Kd.C (Kd.int .u8) w A1 l1.length l1) (hc1 : l1.length ≤ c1) (h : wireglassref21_Make.f l0 l1 = some (r1, r2)) :
    Calls Try.prog 15 #[.slice A0 l0.length c0, .slice A1 l1.length c1] w fun e w' => ∃ v0_ : Value, e = .returned (.tuple #[v0_, .int .i64 r2]) ∧ Kd.R (Kd.int .u8) 5 w' w.heap.size (fun _ => True) v0_ r1 ∧ Below w.heap.size w w' := by
  have HR0 := Aside0.mk hr0
  have HC0 := Aside0.mk hc0
  have HR1 := Aside0.mk hr1
  have HC1 := Aside0.mk hc1
  have hq : (ByteL l0 ∧ ByteL l1) ∧ (if makeOk l0 l1 then (derN l0 l1 4, 0) else ([], 1)) = (r1, r2) := by
    unfold wireglassref21_Make.f at h
    split at h
    · rename_i hc
      exact ⟨⟨byteL_all hc.1, byteL_all hc.2⟩, Option.some.inj h⟩
    · cases h
  clear h
  obtain ⟨⟨hb0, hb1⟩, he⟩ := hq
  have HY0 := Aside0.mk hb0
  have HY1 := Aside0.mk hb1
  have HIT := Aside0.mk (isText_is l0)
  clear hb0 hb1 hc0 hc1 hr1
  by_cases ct : 1 ≤ l0.length ∧ l0.length ≤ 200
  · have HIT2 : Aside0 (wireglassref21_isText.f l0 = some true) := ⟨by rw [HIT.out, decide_eq_true ct]⟩
    by_cases cs : l1.length ≤ 200
    · rw [if_pos ⟨ct, cs⟩] at he
      have he1 := congrArg Prod.fst he
      have he2 := congrArg Prod.snd he
      simp only at he1 he2
      subst he2
      have HE := Aside0.mk he1
      have HL0 : Aside0 (l0.length ≤ 200) := ⟨ct.2⟩
      have HL1 : Aside0 (l1.length ≤ 200) := ⟨cs⟩
      have cs2 : decide (200 < (l1.length : Int)) = false := decide_eq_false (by omega)
      have cs3 : decide (200 < l1.length) = false := decide_eq_false (by omega)
      clear he he1 ct cs HIT
      obtain ⟨i1, hi1, _, hsz1, _⟩ := info_parts info5
      have hs1 : (Try.prog.info? 5).map (·.size) = some 1 := by rw [hi1, Option.map_some, hsz1]
      have hmk : ∀ W : World, (Instr.makeSlice 22 (.int .i64 16) (.int .i64 16)).run Try.prog W = .ok (.slice (some ⟨W.heap.size, 0, none⟩) 16 16) (W.alloc (.cells (nums .u8 (List.replicate 16 0)).toArray 5)) := fun W => print_make 22 5 .u8 1 Try.underlying22 info5 (by decide) 16 (by decide) W |>.trans (by rw [show madeCells #[Value.int .u8 0] 16 = (nums .u8 (List.replicate 16 0)).toArray from by kernel_rfl])
      have hcs : (nums .u8 (l0.take 16)).length = Nat.min l0.length 16 := by simp only [nums, List.length_map, List.length_take]; exact Nat.min_comm _ _
      have hfi : 0 + (nums .u8 (l0.take 16)).length ≤ (nums .u8 (List.replicate 16 0)).length := by rw [hcs, Nat.zero_add]; exact Nat.min_le_right _ _
      have hon : ∀ v ∈ nums .u8 (l0.take 16), v.oneCell' = true := by intro v hv; simp only [nums, List.mem_map] at hv; obtain ⟨a, _, rfl⟩ := hv; rfl
      have HSP := Aside0.mk (splice16 l0)
      have HCS := Aside0.mk hcs
      have HFI := Aside0.mk hfi
      have HON := Aside0.mk hon
      have HS1 := Aside0.mk hs1
      clear hi1 hsz1 hr0 hcs hfi hon hs1
      go_enter Try.func15, Try.ntmps15
      go_wp2_with (first
        | (go_at_call 41; (with_reducible refine (wireglassref21_isText.calls A0 c0 l0 true _ HR0.out HC0.out HIT2.out).mono ?_); rintro e w' ⟨rfl, ⟨nd, rfl⟩⟩)
        | ((with_reducible refine gate_builtin (b := .copy) (xs := #[.tmp 19, .tmp 20]) rfl ?_); refine wpList_copy_splice rfl (.tmp 19) (.tmp 20) 22 22 rfl 5 Try.underlying22 HS1.out _ A0 16 16 l0.length c0 rfl rfl w.heap.size 0 (nums .u8 (List.replicate 16 0)) 5 (heap_alloc_new (w.drewN nd) _) (nums .u8 (l0.take 16)) HCS.out (fun h0 => ⟨rfl, copy_src16 (Kd.reads_of_C (Kd.C_alloc (Kd.C_drewN HR0.out nd) _)) (by rw [HCS.out] at h0; exact Nat.lt_of_lt_of_le h0 (Nat.min_le_left _ _))⟩) HFI.out HON.out w.heap.size w (below_alloc (pw_below_drewN (Below.refl _ _) nd) _) (Nat.le_refl _) ?_; intro W1 hh hb9; have hh2 := hh.out; rw [HSP.out] at hh2; have HH := Aside0.mk hh2; have HB1 := Aside0.mk hb9; clear hh hh2 hb9))
      clear cs2 cs3 hmk
      go_loopg [7, 8] 4 (fun q s7 s8 wx => ∃ i : Nat, i + q = 4 ∧ s8 = .int .i64 ((i + 1 : Nat) : Int) ∧ Aside0 (Kd.R (Kd.int .u8) 5 wx W1.heap.size (fun _ => True) s7 (derN l0 l1 i)) ∧ Aside0 (Below W1.heap.size W1 wx))
      case atStart => exact ⟨0, by omega, rfl, ⟨Kd.R_nil _ _ _ _ _⟩, ⟨Below.refl _ _⟩⟩
      case round =>
        obtain ⟨i, hig, rfl, HO, HB⟩ := hrel
        obtain ⟨j, hj⟩ : ∃ j : Nat, i + 1 = j := ⟨_, rfl⟩
        have HJ := Aside0.mk hj
        rw [hj]
        have hj2 : j + gk = 5 := by omega
        clear hj hig
        cases gk with
        | succ q =>
          have hi2 : (j : Int) < 5 := by omega
          have HI : Aside0 (i < 4) := ⟨by have := HJ.out; omega⟩
          have e2 : (j : Int) % 256 = (j : Int) := by omega
          have HJ0 : Aside0 (0 ≤ (j : Int) ∧ (j : Int) ≤ 255) := ⟨by omega⟩
          have HX : Aside0 (derN l0 l1 (i + 1) = derN l0 l1 i ++ tagOf (key16 l0) ([(j : Int)] ++ l0 ++ [0] ++ l1)) := ⟨by rw [← HJ.out]; rfl⟩
          have HT : Aside0 (wireglassref21_tag.f (key16 l0) ([(j : Int)] ++ l0 ++ [0] ++ l1) = some (tagOf (key16 l0) ([(j : Int)] ++ l0 ++ [0] ++ l1))) := ⟨rtag_is (key16_length _) (key16_byte HY0.out) (byteL_append (byteL_append (byteL_append (byteL_one HJ0.out.1 HJ0.out.2) HY0.out) (byteL_one (by decide) (by decide))) HY1.out)⟩
          have HBB : Aside0 (Below w.heap.size w wr) := ⟨HB1.out.trans (HB.out.mono HB1.out.size)⟩
          have HRW : Aside0 (Kd.C (Kd.int .u8) wr A0 l0.length l0) := ⟨Kd.C_below HR0.out HBB.out⟩
          have HRS : Aside0 (Kd.C (Kd.int .u8) wr A1 l1.length l1) := ⟨Kd.C_below HR1.out HBB.out⟩
          have HKW : Aside0 (wr.heap[w.heap.size]? = some (.cells (nums .u8 (key16 l0)).toArray 5 (0, 0))) := ⟨blk_below HH.out HB.out⟩
          go_wp2_with (first
            | ((with_reducible refine gate_builtin (b := .append) (xs := #[.tmp 28, .tmp 29]) rfl ?_); at_builtin; refine Kd.R_append_rows (Kd.int .u8) (w0 := wr) wr.heap.size rfl (.tmp 28) (.tmp 29) 22 5 (.int .u8 0) 1 rfl Try.underlying22 info5 rfl (by decide) (by omega) _ [(j : Int)] l0 _ _ _ (fun _ => True) (fun _ => False) rfl rfl (lit_R wr wr.heap.size [(j : Int)] (Nat.le_refl _) (by simp)) (Kd.C_alloc HRW.out _) (fun _ _ h => h) (fun _ h => h.elim) (fun _ _ => trivial) (below_alloc (Below.refl _ _) _) ?aS ?aL ?_; (case aS => simp); (case aL => have h := HL0.out; clear e2; simp only [List.length_cons, List.length_nil]; omega); intro v6 w6 ho hb _ _; obtain ⟨A6, c6, e6⟩ := Kd.R_slice ho; obtain ⟨m6, hm6⟩ : ∃ m, ([(j : Int)] ++ l0).length = m := ⟨_, rfl⟩; rw [hm6] at e6; subst e6; have HO6 := Aside0.mk ho; have HB6 := Aside0.mk hb; clear ho hb hm6)
            | ((with_reducible refine gate_builtin (b := .append) (xs := #[.tmp 31, .tmp 32]) rfl ?_); at_builtin; refine Kd.R_append_rows (Kd.int .u8) (w0 := wr) wr.heap.size rfl (.tmp 31) (.tmp 32) 22 5 (.int .u8 0) 1 rfl Try.underlying22 info5 rfl (by decide) (by omega) _ ([(j : Int)] ++ l0) [0] _ _ _ (fun _ => True) (fun _ => False) rfl rfl (Kd.R_alloc HO6.out _) (Kd.R_reads' (lit_R w6 w6.heap.size [0] (Nat.le_refl _) (by simp))).2.2 (fun _ _ h => h) (fun _ h => h.elim) (fun _ _ => trivial) (below_alloc HB6.out _) ?aS ?aL ?_; (case aS => have h := HB6.out.size; simp; omega); (case aL => have h := HL0.out; clear e2; simp only [List.length_append, List.length_cons, List.length_nil]; omega); intro v7 w7 ho hb _ _; have HO7 := Aside0.mk ho; have HB7 := Aside0.mk hb; clear ho hb)
            | ((with_reducible refine gate_builtin (b := .append) (xs := #[.tmp 33, .tmp 34]) rfl ?_); at_builtin; refine Kd.R_append_rows (Kd.int .u8) (w0 := wr) wr.heap.size rfl (.tmp 33) (.tmp 34) 22 5 (.int .u8 0) 1 rfl Try.underlying22 info5 rfl (by decide) (by omega) _ ([(j : Int)] ++ l0 ++ [0]) l1 _ _ _ (fun _ => True) (fun _ => False) rfl rfl HO7.out (Kd.C_below HRS.out HB7.out) (fun _ _ h => h) (fun _ h => h.elim) (fun _ _ => trivial) HB7.out ?aS ?aL ?_; (case aS => exact HB7.out.size); (case aL => have h := HL0.out; have h2 := HL1.out; clear e2; simp only [List.length_append, List.length_cons, List.length_nil]; omega); intro v8 w8 ho hb _ _; obtain ⟨m8, hm8⟩ : ∃ m, ([(j : Int)] ++ l0 ++ [0] ++ l1).length = m := ⟨_, rfl⟩; obtain ⟨A8, c8, e8⟩ := Kd.R_slice ho; rw [hm8] at e8; subst e8; have HO8 := Aside0.mk ho; have HB8 := Aside0.mk hb; have HM8 := Aside0.mk hm8; clear ho hb hm8)
            | (go_at_call 38; (with_reducible refine (ref_tag.callsm _ _ 16 (key16 l0) _ _ m8 _ _ _ ?sidem ?sidem2 ?side1 ?side2 ?side3 ?side4 HT.out).mono ?_); (case sidem => exact key16_length _); (case sidem2 => exact HM8.out); (case side1 => have h := blk_C (blk_below HKW.out HB8.out) (by rw [key16_length]; decide); rw [key16_length] at h; exact h); (case side2 => exact Nat.le_refl _); (case side3 => have h := (Kd.R_reads' HO8.out).2.2; rw [HM8.out] at h; exact h); (case side4 => exact (Kd.R_reads' HO8.out).2.1); rintro e w9 ⟨v9, rfl, ho, hb⟩; obtain ⟨A9, c9, e9⟩ := Kd.R_slice ho; rw [tagOf_length] at e9; subst e9; have HO9 := Aside0.mk ho; have HB9 : Aside0 (Below wr.heap.size wr w9) := ⟨HB8.out.trans (hb.mono HB8.out.size)⟩; clear ho hb)
            | ((with_reducible refine gate_builtin (b := .append) (xs := #[.tmp 36, .tmp 39]) rfl ?_); at_builtin; refine Kd.R_append_rows (Kd.int .u8) (w0 := W1) W1.heap.size rfl (.tmp 36) (.tmp 39) 22 5 (.int .u8 0) 1 rfl Try.underlying22 info5 rfl (by decide) (by omega) _ (derN l0 l1 i) (tagOf (key16 l0) ([(j : Int)] ++ l0 ++ [0] ++ l1)) _ _ _ (fun _ => True) (fun _ => False) rfl rfl (Kd.R_below HO.out HB9.out) ?aR (fun _ _ h => h) (fun _ h => h.elim) (fun _ _ => trivial) (HB.out.trans (HB9.out.mono HB.out.size)) ?aS ?aL ?_; (case aR => have h := (Kd.R_reads' HO9.out).2.2; rw [tagOf_length] at h; exact h); (case aS => exact Nat.le_trans HB.out.size HB9.out.size); (case aL => rw [derN_length]; have h := HI.out; clear e2; omega); intro v10 w10 ho hb _ _; rw [← HX.out] at ho; have HO10 := Aside0.mk ho; have HB10 := Aside0.mk hb; clear ho hb))
          clear e2
          go_roundg q
          case measure => omega
          case rel => exact ⟨i + 1, by have := HJ.out; omega, by first | (rw [HJ.out]; done) | (rw [HJ.out]; rfl) | rfl | simp, HO10, HB10⟩
        | zero =>
          obtain rfl : j = 5 := by omega
          have h4 : i = 4 := by have := HJ.out; omega
          subst h4
          go_wp2
          go_ret2
          exact ⟨_, rfl, by rw [← HE.out]; exact Kd.R_lower HO.out HB1.out.size, HB1.out.trans (HB.out.mono HB1.out.size)⟩
    · rw [if_neg (fun h => cs h.2)] at he
      cases he
      have cs2 : decide (200 < (l1.length : Int)) = true := decide_eq_true (by omega)
      have cs3 : decide (200 < l1.length) = true := decide_eq_true (by omega)
      go_enter Try.func15, Try.ntmps15
      go_wp2_with (first
        | (go_at_call 41; (with_reducible refine (wireglassref21_isText.calls A0 c0 l0 true _ HR0.out HC0.out HIT2.out).mono ?_); rintro e w' ⟨rfl, ⟨nd, rfl⟩⟩))
      go_ret2
      exact ⟨_, rfl, Kd.R_nil _ _ _ _ _, pw_below_drewN (Below.refl _ _) _⟩
  · have HIT2 : Aside0 (wireglassref21_isText.f l0 = some false) := ⟨by rw [HIT.out, decide_eq_false ct]⟩
    rw [if_neg (fun h => ct h.1)] at he
    cases he
    clear ct
    go_enter Try.func15, Try.ntmps15
    go_wp2_with (first
      | (go_at_call 41; (with_reducible refine (wireglassref21_isText.calls A0 c0 l0 false _ HR0.out HC0.out HIT2.out).mono ?_); rintro e w' ⟨rfl, ⟨nd, rfl⟩⟩))
    go_ret2
    exact ⟨_, rfl, Kd.R_nil _ _ _ _ _, pw_below_drewN (Below.refl _ _) _⟩

/-! ### wireglasslaw21_KeyTags: function 4 -/
def wireglasslaw21_KeyTags.f (l0 : List Int) (l1 : List Int) : Option (Bool) := if (wrap64 ((l0.length : Int) + (l1.length : Int))) > 200000 then ((wireglasslaw21_known.f).bind fun t199 => (some t199)) else ((key_Tag.f l0 l1).bind fun bt200 => ((wireglassref21_Tag.f l0 l1).bind fun bt204 => ((key_Make.f l0 l1).bind fun bt208 => ((wireglassref21_Make.f l0 l1).bind fun bt212 => (if (strOfNums bt200.1).toList = (strOfNums bt204.1).toList then (if bt200.2 = bt204.2 then (if (strOfNums bt208.1).toList = (strOfNums bt212.1).toList then (if bt208.2 = bt212.2 then ((wireglasslaw21_known.f).bind fun t216 => (some t216)) else (some false)) else (some false)) else (some false)) else (some false))))))
set_option maxHeartbeats 8000000 in
set_option maxRecDepth 100000 in
theorem wireglasslaw21_KeyTags.calls (A0 : Option Addr) (c0 : Nat) (l0 : List Int) (A1 : Option Addr) (c1 : Nat) (l1 : List Int) (r : Bool) (w : World) (hr0 : Kd.C (Kd.int .u8) w A0 l0.length l0) (hc0 : l0.length ≤ c0) (hr1 : Kd.C (Kd.int .u8) w A1 l1.length l1) (hc1 : l1.length ≤ c1) (h : wireglasslaw21_KeyTags.f l0 l1 = some r) :
    Calls Try.prog 4 #[.slice A0 l0.length c0, .slice A1 l1.length c1] w fun e w' => e = .returned (.bool r) ∧ Below w.heap.size w w' := by
  have HR0 := Aside0.mk hr0
  have HC0 := Aside0.mk hc0
  clear hr0 hc0
  have HR1 := Aside0.mk hr1
  have HC1 := Aside0.mk hc1
  clear hr1 hc1
  have HB := Aside0.mk (Below.refl w.heap.size w)
  have H : (if (wrap64 ((l0.length : Int) + (l1.length : Int))) > 200000 then ((wireglasslaw21_known.f).bind fun t199 => (some t199)) else ((key_Tag.f l0 l1).bind fun bt200 => ((wireglassref21_Tag.f l0 l1).bind fun bt204 => ((key_Make.f l0 l1).bind fun bt208 => ((wireglassref21_Make.f l0 l1).bind fun bt212 => (if (strOfNums bt200.1).toList = (strOfNums bt204.1).toList then (if bt200.2 = bt204.2 then (if (strOfNums bt208.1).toList = (strOfNums bt212.1).toList then (if bt208.2 = bt212.2 then ((wireglasslaw21_known.f).bind fun t216 => (some t216)) else (some false)) else (some false)) else (some false)) else (some false))))))) = some r := h
  clear h
  by_cases c3 : (wrap64 ((l0.length : Int) + (l1.length : Int))) > 200000
  · rw [if_pos c3] at H
    have c3b0 : decide (200000 < (wrap64 ((l0.length : Int) + (l1.length : Int)))) = true := decide_eq_true c3
    clear c3
    replace H := Option.bind_eq_some_iff.mp H
    obtain ⟨t199, A40, H⟩ := H
    replace H : (some t199) = some r := H
    have A4 := Aside0.mk A40
    clear A40
    obtain rfl := Option.some.inj H
    go_enter Try.func4, Try.ntmps4
    go_wp2_with (first | ((with_reducible refine gate_callee (f := 9) rfl ?_); refine goesL_ (some 19) rfl rfl Try.func9 (by kernel_rfl) rfl #[] rfl (by (try simp only [List.map_toArray, List.map_cons, List.map_nil]); first | done | rfl | (simp only [List.length_drop, List.length_take]; rfl)) ?_; (with_reducible refine (wireglasslaw21_known.calls  t199 _ A4.out).mono ?_); rintro e w5 ⟨rfl, hb⟩; refine ⟨_, rfl, ?_⟩; have n0_ := Aside0.mk (below_step (by repeat (first | (with_reducible first | exact HB.out | apply below_alloc | apply pw_below_drewN | apply below_drew1) | exact HB.out)) hb); clear HB; have HB := n0_; clear n0_; (try clear hb); (try clear hb2); (try clear hk); (try clear hi)))
    go_ret
    exact ⟨by first | rfl | (simp [errW_none, errW_some] <;> rfl) | (simp [*, errW_none, errW_some] <;> rfl), by repeat (first | (with_reducible first | exact HB.out | apply below_alloc | apply pw_below_drewN | apply below_drew1) | exact HB.out)⟩
  · rw [if_neg c3] at H
    have c3b0 : decide (200000 < (wrap64 ((l0.length : Int) + (l1.length : Int)))) = false := decide_eq_false c3
    clear c3
    replace H := Option.bind_eq_some_iff.mp H
    obtain ⟨⟨t200, t201⟩, A60, H⟩ := H
    replace H : ((wireglassref21_Tag.f l0 l1).bind fun bt204 => ((key_Make.f l0 l1).bind fun bt208 => ((wireglassref21_Make.f l0 l1).bind fun bt212 => (if (strOfNums t200).toList = (strOfNums bt204.1).toList then (if t201 = bt204.2 then (if (strOfNums bt208.1).toList = (strOfNums bt212.1).toList then (if bt208.2 = bt212.2 then ((wireglasslaw21_known.f).bind fun t216 => (some t216)) else (some false)) else (some false)) else (some false)) else (some false))))) = some r := H
    have A6 := Aside0.mk A60
    clear A60
    replace H := Option.bind_eq_some_iff.mp H
    obtain ⟨⟨t204, t205⟩, A70, H⟩ := H
    replace H : ((key_Make.f l0 l1).bind fun bt208 => ((wireglassref21_Make.f l0 l1).bind fun bt212 => (if (strOfNums t200).toList = (strOfNums t204).toList then (if t201 = t205 then (if (strOfNums bt208.1).toList = (strOfNums bt212.1).toList then (if bt208.2 = bt212.2 then ((wireglasslaw21_known.f).bind fun t216 => (some t216)) else (some false)) else (some false)) else (some false)) else (some false)))) = some r := H
    have A7 := Aside0.mk A70
    clear A70
    replace H := Option.bind_eq_some_iff.mp H
    obtain ⟨⟨t208, t209⟩, A80, H⟩ := H
    replace H : ((wireglassref21_Make.f l0 l1).bind fun bt212 => (if (strOfNums t200).toList = (strOfNums t204).toList then (if t201 = t205 then (if (strOfNums t208).toList = (strOfNums bt212.1).toList then (if t209 = bt212.2 then ((wireglasslaw21_known.f).bind fun t216 => (some t216)) else (some false)) else (some false)) else (some false)) else (some false))) = some r := H
    have A8 := Aside0.mk A80
    clear A80
    replace H := Option.bind_eq_some_iff.mp H
    obtain ⟨⟨t212, t213⟩, A90, H⟩ := H
    replace H : (if (strOfNums t200).toList = (strOfNums t204).toList then (if t201 = t205 then (if (strOfNums t208).toList = (strOfNums t212).toList then (if t209 = t213 then ((wireglasslaw21_known.f).bind fun t216 => (some t216)) else (some false)) else (some false)) else (some false)) else (some false)) = some r := H
    have A9 := Aside0.mk A90
    clear A90
    by_cases c10 : (strOfNums t200).toList = (strOfNums t204).toList
    · rw [if_pos c10] at H
      have c10b0 : ((strOfNums t200).toList == (strOfNums t204).toList) = true := beq_iff_eq.mpr c10
      have c10b1 : ((strOfNums t200).toList != (strOfNums t204).toList) = false := bne_eq_false_iff_eq.mpr c10
      clear c10
      by_cases c11 : t201 = t205
      · rw [if_pos c11] at H
        have c11b0 : (t201 == t205) = true := beq_iff_eq.mpr c11
        have c11b1 : (t201 != t205) = false := bne_eq_false_iff_eq.mpr c11
        clear c11
        by_cases c12 : (strOfNums t208).toList = (strOfNums t212).toList
        · rw [if_pos c12] at H
          have c12b0 : ((strOfNums t208).toList == (strOfNums t212).toList) = true := beq_iff_eq.mpr c12
          have c12b1 : ((strOfNums t208).toList != (strOfNums t212).toList) = false := bne_eq_false_iff_eq.mpr c12
          clear c12
          by_cases c13 : t209 = t213
          · rw [if_pos c13] at H
            have c13b0 : (t209 == t213) = true := beq_iff_eq.mpr c13
            have c13b1 : (t209 != t213) = false := bne_eq_false_iff_eq.mpr c13
            clear c13
            replace H := Option.bind_eq_some_iff.mp H
            obtain ⟨t216, A140, H⟩ := H
            replace H : (some t216) = some r := H
            have A14 := Aside0.mk A140
            clear A140
            obtain rfl := Option.some.inj H
            go_enter Try.func4, Try.ntmps4
            go_wp2_with (first | ((with_reducible refine gate_callee (f := 12) rfl ?_); refine goesL_ (some 23) rfl rfl Try.func12 (by kernel_rfl) rfl #[.slice A0 l0.length c0, .slice A1 l1.length c1] rfl (by (try simp only [List.map_toArray, List.map_cons, List.map_nil]); first | done | rfl | (simp only [List.length_drop, List.length_take]; rfl)) ?_; (with_reducible refine (key_Tag.calls _ _ l0 _ _ l1 t200 t201 _ ?side1 ?side2 ?side3 ?side4 A6.out).mono ?_); (case side1 => repeat (first | exact HR0.out | (with_reducible refine Kd.C_alloc ?_ _) | (with_reducible refine Kd.C_drewN ?_ _) | (with_reducible refine Kd.C_drew ?_))); (case side2 => exact HC0.out); (case side3 => repeat (first | exact HR1.out | (with_reducible refine Kd.C_alloc ?_ _) | (with_reducible refine Kd.C_drewN ?_ _) | (with_reducible refine Kd.C_drew ?_))); (case side4 => exact HC1.out); rintro e w15 ⟨v202, rfl, ho0, hb⟩; refine ⟨_, rfl, ?_⟩; have n0_ := Aside0.mk (Kd.R_lower ho0 (below_size (by repeat (first | (with_reducible first | exact HB.out | apply below_alloc | apply pw_below_drewN | apply below_drew1) | exact HB.out)))); have n1_ := Aside0.mk (below_step (by repeat (first | (with_reducible first | exact HB.out | apply below_alloc | apply pw_below_drewN | apply below_drew1) | exact HB.out)) hb); clear HB; have HO203 := n0_; have HB := n1_; clear n0_ n1_; (try clear hb); (try clear hb2); (try clear hk); (try clear hi); (try clear ho0)) | ((with_reducible refine gate_callee (f := 13) rfl ?_); refine goesL_ (some 29) rfl rfl Try.func13 (by kernel_rfl) rfl #[.slice A0 l0.length c0, .slice A1 l1.length c1] rfl (by (try simp only [List.map_toArray, List.map_cons, List.map_nil]); first | done | rfl | (simp only [List.length_drop, List.length_take]; rfl)) ?_; (with_reducible refine (wireglassref21_Tag.calls _ _ l0 _ _ l1 t204 t205 _ ?side1 ?side2 ?side3 ?side4 A7.out).mono ?_); (case side1 => repeat (first | exact (Kd.C_below HR0.out HB.out) | (with_reducible refine Kd.C_alloc ?_ _) | (with_reducible refine Kd.C_drewN ?_ _) | (with_reducible refine Kd.C_drew ?_))); (case side2 => exact HC0.out); (case side3 => repeat (first | exact (Kd.C_below HR1.out HB.out) | (with_reducible refine Kd.C_alloc ?_ _) | (with_reducible refine Kd.C_drewN ?_ _) | (with_reducible refine Kd.C_drew ?_))); (case side4 => exact HC1.out); rintro e w16 ⟨v206, rfl, ho0, hb⟩; refine ⟨_, rfl, ?_⟩; have n0_ := Aside0.mk (Kd.R_elder' (by (with_reducible repeat (first | apply Kd.R_alloc | apply Kd.R_drewN | apply Kd.R_drew)); exact HO203.out) (Kd.R_base ho0) hb); have n1_ := Aside0.mk (Kd.R_lower (Kd.R_new' ho0 (Kd.R_lt (by (with_reducible repeat (first | apply Kd.R_alloc | apply Kd.R_drewN | apply Kd.R_drew)); exact HO203.out))) (below_size (by repeat (first | (with_reducible first | exact HB.out | apply below_alloc | apply pw_below_drewN | apply below_drew1) | exact HB.out)))); have n2_ := Aside0.mk (below_step (by repeat (first | (with_reducible first | exact HB.out | apply below_alloc | apply pw_below_drewN | apply below_drew1) | exact HB.out)) hb); clear HO203; clear HB; have HO203 := n0_; have HO207 := n1_; have HB := n2_; clear n0_ n1_ n2_; (try clear hb); (try clear hb2); (try clear hk); (try clear hi); (try clear ho0)) | ((with_reducible refine gate_callee (f := 14) rfl ?_); refine goesL_ (some 35) rfl rfl Try.func14 (by kernel_rfl) rfl #[.slice A0 l0.length c0, .slice A1 l1.length c1] rfl (by (try simp only [List.map_toArray, List.map_cons, List.map_nil]); first | done | rfl | (simp only [List.length_drop, List.length_take]; rfl)) ?_; (with_reducible refine (key_Make.calls _ _ l0 _ _ l1 t208 t209 _ ?side1 ?side2 ?side3 ?side4 A8.out).mono ?_); (case side1 => repeat (first | exact (Kd.C_below HR0.out HB.out) | (with_reducible refine Kd.C_alloc ?_ _) | (with_reducible refine Kd.C_drewN ?_ _) | (with_reducible refine Kd.C_drew ?_))); (case side2 => exact HC0.out); (case side3 => repeat (first | exact (Kd.C_below HR1.out HB.out) | (with_reducible refine Kd.C_alloc ?_ _) | (with_reducible refine Kd.C_drewN ?_ _) | (with_reducible refine Kd.C_drew ?_))); (case side4 => exact HC1.out); rintro e w17 ⟨v210, rfl, ho0, hb⟩; refine ⟨_, rfl, ?_⟩; have n0_ := Aside0.mk (Kd.R_elder' (by (with_reducible repeat (first | apply Kd.R_alloc | apply Kd.R_drewN | apply Kd.R_drew)); exact HO203.out) (Kd.R_base ho0) hb); have n1_ := Aside0.mk (Kd.R_elder' (by (with_reducible repeat (first | apply Kd.R_alloc | apply Kd.R_drewN | apply Kd.R_drew)); exact HO207.out) (Kd.R_base ho0) hb); have n2_ := Aside0.mk (Kd.R_lower (Kd.R_new' (Kd.R_new' ho0 (Kd.R_lt (by (with_reducible repeat (first | apply Kd.R_alloc | apply Kd.R_drewN | apply Kd.R_drew)); exact HO203.out))) (Kd.R_lt (by (with_reducible repeat (first | apply Kd.R_alloc | apply Kd.R_drewN | apply Kd.R_drew)); exact HO207.out))) (below_size (by repeat (first | (with_reducible first | exact HB.out | apply below_alloc | apply pw_below_drewN | apply below_drew1) | exact HB.out)))); have n3_ := Aside0.mk (below_step (by repeat (first | (with_reducible first | exact HB.out | apply below_alloc | apply pw_below_drewN | apply below_drew1) | exact HB.out)) hb); clear HO203; clear HO207; clear HB; have HO203 := n0_; have HO207 := n1_; have HO211 := n2_; have HB := n3_; clear n0_ n1_ n2_ n3_; (try clear hb); (try clear hb2); (try clear hk); (try clear hi); (try clear ho0)) | ((with_reducible refine gate_callee (f := 15) rfl ?_); refine goesL_ (some 41) rfl rfl Try.func15 (by kernel_rfl) rfl #[.slice A0 l0.length c0, .slice A1 l1.length c1] rfl (by (try simp only [List.map_toArray, List.map_cons, List.map_nil]); first | done | rfl | (simp only [List.length_drop, List.length_take]; rfl)) ?_; (with_reducible refine (wireglassref21_Make.calls _ _ l0 _ _ l1 t212 t213 _ ?side1 ?side2 ?side3 ?side4 A9.out).mono ?_); (case side1 => repeat (first | exact (Kd.C_below HR0.out HB.out) | (with_reducible refine Kd.C_alloc ?_ _) | (with_reducible refine Kd.C_drewN ?_ _) | (with_reducible refine Kd.C_drew ?_))); (case side2 => exact HC0.out); (case side3 => repeat (first | exact (Kd.C_below HR1.out HB.out) | (with_reducible refine Kd.C_alloc ?_ _) | (with_reducible refine Kd.C_drewN ?_ _) | (with_reducible refine Kd.C_drew ?_))); (case side4 => exact HC1.out); rintro e w18 ⟨v214, rfl, ho0, hb⟩; refine ⟨_, rfl, ?_⟩; have n0_ := Aside0.mk (Kd.R_elder' (by (with_reducible repeat (first | apply Kd.R_alloc | apply Kd.R_drewN | apply Kd.R_drew)); exact HO203.out) (Kd.R_base ho0) hb); have n1_ := Aside0.mk (Kd.R_elder' (by (with_reducible repeat (first | apply Kd.R_alloc | apply Kd.R_drewN | apply Kd.R_drew)); exact HO207.out) (Kd.R_base ho0) hb); have n2_ := Aside0.mk (Kd.R_elder' (by (with_reducible repeat (first | apply Kd.R_alloc | apply Kd.R_drewN | apply Kd.R_drew)); exact HO211.out) (Kd.R_base ho0) hb); have n3_ := Aside0.mk (Kd.R_lower (Kd.R_new' (Kd.R_new' (Kd.R_new' ho0 (Kd.R_lt (by (with_reducible repeat (first | apply Kd.R_alloc | apply Kd.R_drewN | apply Kd.R_drew)); exact HO203.out))) (Kd.R_lt (by (with_reducible repeat (first | apply Kd.R_alloc | apply Kd.R_drewN | apply Kd.R_drew)); exact HO207.out))) (Kd.R_lt (by (with_reducible repeat (first | apply Kd.R_alloc | apply Kd.R_drewN | apply Kd.R_drew)); exact HO211.out))) (below_size (by repeat (first | (with_reducible first | exact HB.out | apply below_alloc | apply pw_below_drewN | apply below_drew1) | exact HB.out)))); have n4_ := Aside0.mk (below_step (by repeat (first | (with_reducible first | exact HB.out | apply below_alloc | apply pw_below_drewN | apply below_drew1) | exact HB.out)) hb); clear HO203; clear HO207; clear HO211; clear HB; have HO203 := n0_; have HO207 := n1_; have HO211 := n2_; have HO215 := n3_; have HB := n4_; clear n0_ n1_ n2_ n3_ n4_; (try clear hb); (try clear hb2); (try clear hk); (try clear hi); (try clear ho0); have hcv19 := own_string (P := Try.prog) Try.underlying22 Try.underlying5 Try.underlying9 (Kd.own_of_R HO203.out); have hcv20 := own_string (P := Try.prog) Try.underlying22 Try.underlying5 Try.underlying9 (Kd.own_of_R HO207.out); have hcv21 := own_string (P := Try.prog) Try.underlying22 Try.underlying5 Try.underlying9 (Kd.own_of_R HO211.out); have hcv22 := own_string (P := Try.prog) Try.underlying22 Try.underlying5 Try.underlying9 (Kd.own_of_R HO215.out)) | (go_at_call 9; (with_reducible refine (wireglasslaw21_known.calls  t216 _ A14.out).mono ?_); rintro e w23 ⟨rfl, hb⟩; have n0_ := Aside0.mk (Kd.R_below (by (with_reducible repeat (first | apply Kd.R_alloc | apply Kd.R_drewN | apply Kd.R_drew)); exact HO203.out) hb); have n1_ := Aside0.mk (Kd.R_below (by (with_reducible repeat (first | apply Kd.R_alloc | apply Kd.R_drewN | apply Kd.R_drew)); exact HO207.out) hb); have n2_ := Aside0.mk (Kd.R_below (by (with_reducible repeat (first | apply Kd.R_alloc | apply Kd.R_drewN | apply Kd.R_drew)); exact HO211.out) hb); have n3_ := Aside0.mk (Kd.R_below (by (with_reducible repeat (first | apply Kd.R_alloc | apply Kd.R_drewN | apply Kd.R_drew)); exact HO215.out) hb); have n4_ := Aside0.mk (below_step (by repeat (first | (with_reducible first | exact HB.out | apply below_alloc | apply pw_below_drewN | apply below_drew1) | exact HB.out)) hb); clear HO203; clear HO207; clear HO211; clear HO215; clear HB; have HO203 := n0_; have HO207 := n1_; have HO211 := n2_; have HO215 := n3_; have HB := n4_; clear n0_ n1_ n2_ n3_ n4_; (try clear hb); (try clear hb2); (try clear hk); (try clear hi)))
            go_ret
            exact ⟨by first | rfl | (simp [errW_none, errW_some] <;> rfl) | (simp [*, errW_none, errW_some] <;> rfl), by repeat (first | (with_reducible first | exact HB.out | apply below_alloc | apply pw_below_drewN | apply below_drew1) | exact HB.out)⟩
          · rw [if_neg c13] at H
            have c13b0 : (t209 == t213) = false := beq_eq_false_iff_ne.mpr c13
            have c13b1 : (t209 != t213) = true := bne_iff_ne.mpr c13
            obtain rfl := Option.some.inj H
            go_enter Try.func4, Try.ntmps4
            go_wp2_with (first | ((with_reducible refine gate_callee (f := 12) rfl ?_); refine goesL_ (some 23) rfl rfl Try.func12 (by kernel_rfl) rfl #[.slice A0 l0.length c0, .slice A1 l1.length c1] rfl (by (try simp only [List.map_toArray, List.map_cons, List.map_nil]); first | done | rfl | (simp only [List.length_drop, List.length_take]; rfl)) ?_; (with_reducible refine (key_Tag.calls _ _ l0 _ _ l1 t200 t201 _ ?side1 ?side2 ?side3 ?side4 A6.out).mono ?_); (case side1 => repeat (first | exact HR0.out | (with_reducible refine Kd.C_alloc ?_ _) | (with_reducible refine Kd.C_drewN ?_ _) | (with_reducible refine Kd.C_drew ?_))); (case side2 => exact HC0.out); (case side3 => repeat (first | exact HR1.out | (with_reducible refine Kd.C_alloc ?_ _) | (with_reducible refine Kd.C_drewN ?_ _) | (with_reducible refine Kd.C_drew ?_))); (case side4 => exact HC1.out); rintro e w24 ⟨v202, rfl, ho0, hb⟩; refine ⟨_, rfl, ?_⟩; have n0_ := Aside0.mk (Kd.R_lower ho0 (below_size (by repeat (first | (with_reducible first | exact HB.out | apply below_alloc | apply pw_below_drewN | apply below_drew1) | exact HB.out)))); have n1_ := Aside0.mk (below_step (by repeat (first | (with_reducible first | exact HB.out | apply below_alloc | apply pw_below_drewN | apply below_drew1) | exact HB.out)) hb); clear HB; have HO203 := n0_; have HB := n1_; clear n0_ n1_; (try clear hb); (try clear hb2); (try clear hk); (try clear hi); (try clear ho0)) | ((with_reducible refine gate_callee (f := 13) rfl ?_); refine goesL_ (some 29) rfl rfl Try.func13 (by kernel_rfl) rfl #[.slice A0 l0.length c0, .slice A1 l1.length c1] rfl (by (try simp only [List.map_toArray, List.map_cons, List.map_nil]); first | done | rfl | (simp only [List.length_drop, List.length_take]; rfl)) ?_; (with_reducible refine (wireglassref21_Tag.calls _ _ l0 _ _ l1 t204 t205 _ ?side1 ?side2 ?side3 ?side4 A7.out).mono ?_); (case side1 => repeat (first | exact (Kd.C_below HR0.out HB.out) | (with_reducible refine Kd.C_alloc ?_ _) | (with_reducible refine Kd.C_drewN ?_ _) | (with_reducible refine Kd.C_drew ?_))); (case side2 => exact HC0.out); (case side3 => repeat (first | exact (Kd.C_below HR1.out HB.out) | (with_reducible refine Kd.C_alloc ?_ _) | (with_reducible refine Kd.C_drewN ?_ _) | (with_reducible refine Kd.C_drew ?_))); (case side4 => exact HC1.out); rintro e w25 ⟨v206, rfl, ho0, hb⟩; refine ⟨_, rfl, ?_⟩; have n0_ := Aside0.mk (Kd.R_elder' (by (with_reducible repeat (first | apply Kd.R_alloc | apply Kd.R_drewN | apply Kd.R_drew)); exact HO203.out) (Kd.R_base ho0) hb); have n1_ := Aside0.mk (Kd.R_lower (Kd.R_new' ho0 (Kd.R_lt (by (with_reducible repeat (first | apply Kd.R_alloc | apply Kd.R_drewN | apply Kd.R_drew)); exact HO203.out))) (below_size (by repeat (first | (with_reducible first | exact HB.out | apply below_alloc | apply pw_below_drewN | apply below_drew1) | exact HB.out)))); have n2_ := Aside0.mk (below_step (by repeat (first | (with_reducible first | exact HB.out | apply below_alloc | apply pw_below_drewN | apply below_drew1) | exact HB.out)) hb); clear HO203; clear HB; have HO203 := n0_; have HO207 := n1_; have HB := n2_; clear n0_ n1_ n2_; (try clear hb); (try clear hb2); (try clear hk); (try clear hi); (try clear ho0)) | ((with_reducible refine gate_callee (f := 14) rfl ?_); refine goesL_ (some 35) rfl rfl Try.func14 (by kernel_rfl) rfl #[.slice A0 l0.length c0, .slice A1 l1.length c1] rfl (by (try simp only [List.map_toArray, List.map_cons, List.map_nil]); first | done | rfl | (simp only [List.length_drop, List.length_take]; rfl)) ?_; (with_reducible refine (key_Make.calls _ _ l0 _ _ l1 t208 t209 _ ?side1 ?side2 ?side3 ?side4 A8.out).mono ?_); (case side1 => repeat (first | exact (Kd.C_below HR0.out HB.out) | (with_reducible refine Kd.C_alloc ?_ _) | (with_reducible refine Kd.C_drewN ?_ _) | (with_reducible refine Kd.C_drew ?_))); (case side2 => exact HC0.out); (case side3 => repeat (first | exact (Kd.C_below HR1.out HB.out) | (with_reducible refine Kd.C_alloc ?_ _) | (with_reducible refine Kd.C_drewN ?_ _) | (with_reducible refine Kd.C_drew ?_))); (case side4 => exact HC1.out); rintro e w26 ⟨v210, rfl, ho0, hb⟩; refine ⟨_, rfl, ?_⟩; have n0_ := Aside0.mk (Kd.R_elder' (by (with_reducible repeat (first | apply Kd.R_alloc | apply Kd.R_drewN | apply Kd.R_drew)); exact HO203.out) (Kd.R_base ho0) hb); have n1_ := Aside0.mk (Kd.R_elder' (by (with_reducible repeat (first | apply Kd.R_alloc | apply Kd.R_drewN | apply Kd.R_drew)); exact HO207.out) (Kd.R_base ho0) hb); have n2_ := Aside0.mk (Kd.R_lower (Kd.R_new' (Kd.R_new' ho0 (Kd.R_lt (by (with_reducible repeat (first | apply Kd.R_alloc | apply Kd.R_drewN | apply Kd.R_drew)); exact HO203.out))) (Kd.R_lt (by (with_reducible repeat (first | apply Kd.R_alloc | apply Kd.R_drewN | apply Kd.R_drew)); exact HO207.out))) (below_size (by repeat (first | (with_reducible first | exact HB.out | apply below_alloc | apply pw_below_drewN | apply below_drew1) | exact HB.out)))); have n3_ := Aside0.mk (below_step (by repeat (first | (with_reducible first | exact HB.out | apply below_alloc | apply pw_below_drewN | apply below_drew1) | exact HB.out)) hb); clear HO203; clear HO207; clear HB; have HO203 := n0_; have HO207 := n1_; have HO211 := n2_; have HB := n3_; clear n0_ n1_ n2_ n3_; (try clear hb); (try clear hb2); (try clear hk); (try clear hi); (try clear ho0)) | ((with_reducible refine gate_callee (f := 15) rfl ?_); refine goesL_ (some 41) rfl rfl Try.func15 (by kernel_rfl) rfl #[.slice A0 l0.length c0, .slice A1 l1.length c1] rfl (by (try simp only [List.map_toArray, List.map_cons, List.map_nil]); first | done | rfl | (simp only [List.length_drop, List.length_take]; rfl)) ?_; (with_reducible refine (wireglassref21_Make.calls _ _ l0 _ _ l1 t212 t213 _ ?side1 ?side2 ?side3 ?side4 A9.out).mono ?_); (case side1 => repeat (first | exact (Kd.C_below HR0.out HB.out) | (with_reducible refine Kd.C_alloc ?_ _) | (with_reducible refine Kd.C_drewN ?_ _) | (with_reducible refine Kd.C_drew ?_))); (case side2 => exact HC0.out); (case side3 => repeat (first | exact (Kd.C_below HR1.out HB.out) | (with_reducible refine Kd.C_alloc ?_ _) | (with_reducible refine Kd.C_drewN ?_ _) | (with_reducible refine Kd.C_drew ?_))); (case side4 => exact HC1.out); rintro e w27 ⟨v214, rfl, ho0, hb⟩; refine ⟨_, rfl, ?_⟩; have n0_ := Aside0.mk (Kd.R_elder' (by (with_reducible repeat (first | apply Kd.R_alloc | apply Kd.R_drewN | apply Kd.R_drew)); exact HO203.out) (Kd.R_base ho0) hb); have n1_ := Aside0.mk (Kd.R_elder' (by (with_reducible repeat (first | apply Kd.R_alloc | apply Kd.R_drewN | apply Kd.R_drew)); exact HO207.out) (Kd.R_base ho0) hb); have n2_ := Aside0.mk (Kd.R_elder' (by (with_reducible repeat (first | apply Kd.R_alloc | apply Kd.R_drewN | apply Kd.R_drew)); exact HO211.out) (Kd.R_base ho0) hb); have n3_ := Aside0.mk (Kd.R_lower (Kd.R_new' (Kd.R_new' (Kd.R_new' ho0 (Kd.R_lt (by (with_reducible repeat (first | apply Kd.R_alloc | apply Kd.R_drewN | apply Kd.R_drew)); exact HO203.out))) (Kd.R_lt (by (with_reducible repeat (first | apply Kd.R_alloc | apply Kd.R_drewN | apply Kd.R_drew)); exact HO207.out))) (Kd.R_lt (by (with_reducible repeat (first | apply Kd.R_alloc | apply Kd.R_drewN | apply Kd.R_drew)); exact HO211.out))) (below_size (by repeat (first | (with_reducible first | exact HB.out | apply below_alloc | apply pw_below_drewN | apply below_drew1) | exact HB.out)))); have n4_ := Aside0.mk (below_step (by repeat (first | (with_reducible first | exact HB.out | apply below_alloc | apply pw_below_drewN | apply below_drew1) | exact HB.out)) hb); clear HO203; clear HO207; clear HO211; clear HB; have HO203 := n0_; have HO207 := n1_; have HO211 := n2_; have HO215 := n3_; have HB := n4_; clear n0_ n1_ n2_ n3_ n4_; (try clear hb); (try clear hb2); (try clear hk); (try clear hi); (try clear ho0); have hcv28 := own_string (P := Try.prog) Try.underlying22 Try.underlying5 Try.underlying9 (Kd.own_of_R HO203.out); have hcv29 := own_string (P := Try.prog) Try.underlying22 Try.underlying5 Try.underlying9 (Kd.own_of_R HO207.out); have hcv30 := own_string (P := Try.prog) Try.underlying22 Try.underlying5 Try.underlying9 (Kd.own_of_R HO211.out); have hcv31 := own_string (P := Try.prog) Try.underlying22 Try.underlying5 Try.underlying9 (Kd.own_of_R HO215.out)))
            go_ret
            exact ⟨by first | rfl | (simp [errW_none, errW_some] <;> rfl) | (simp [*, errW_none, errW_some] <;> rfl), by repeat (first | (with_reducible first | exact HB.out | apply below_alloc | apply pw_below_drewN | apply below_drew1) | exact HB.out)⟩
        · rw [if_neg c12] at H
          have c12b0 : ((strOfNums t208).toList == (strOfNums t212).toList) = false := beq_eq_false_iff_ne.mpr c12
          have c12b1 : ((strOfNums t208).toList != (strOfNums t212).toList) = true := bne_iff_ne.mpr c12
          obtain rfl := Option.some.inj H
          go_enter Try.func4, Try.ntmps4
          go_wp2_with (first | ((with_reducible refine gate_callee (f := 12) rfl ?_); refine goesL_ (some 23) rfl rfl Try.func12 (by kernel_rfl) rfl #[.slice A0 l0.length c0, .slice A1 l1.length c1] rfl (by (try simp only [List.map_toArray, List.map_cons, List.map_nil]); first | done | rfl | (simp only [List.length_drop, List.length_take]; rfl)) ?_; (with_reducible refine (key_Tag.calls _ _ l0 _ _ l1 t200 t201 _ ?side1 ?side2 ?side3 ?side4 A6.out).mono ?_); (case side1 => repeat (first | exact HR0.out | (with_reducible refine Kd.C_alloc ?_ _) | (with_reducible refine Kd.C_drewN ?_ _) | (with_reducible refine Kd.C_drew ?_))); (case side2 => exact HC0.out); (case side3 => repeat (first | exact HR1.out | (with_reducible refine Kd.C_alloc ?_ _) | (with_reducible refine Kd.C_drewN ?_ _) | (with_reducible refine Kd.C_drew ?_))); (case side4 => exact HC1.out); rintro e w32 ⟨v202, rfl, ho0, hb⟩; refine ⟨_, rfl, ?_⟩; have n0_ := Aside0.mk (Kd.R_lower ho0 (below_size (by repeat (first | (with_reducible first | exact HB.out | apply below_alloc | apply pw_below_drewN | apply below_drew1) | exact HB.out)))); have n1_ := Aside0.mk (below_step (by repeat (first | (with_reducible first | exact HB.out | apply below_alloc | apply pw_below_drewN | apply below_drew1) | exact HB.out)) hb); clear HB; have HO203 := n0_; have HB := n1_; clear n0_ n1_; (try clear hb); (try clear hb2); (try clear hk); (try clear hi); (try clear ho0)) | ((with_reducible refine gate_callee (f := 13) rfl ?_); refine goesL_ (some 29) rfl rfl Try.func13 (by kernel_rfl) rfl #[.slice A0 l0.length c0, .slice A1 l1.length c1] rfl (by (try simp only [List.map_toArray, List.map_cons, List.map_nil]); first | done | rfl | (simp only [List.length_drop, List.length_take]; rfl)) ?_; (with_reducible refine (wireglassref21_Tag.calls _ _ l0 _ _ l1 t204 t205 _ ?side1 ?side2 ?side3 ?side4 A7.out).mono ?_); (case side1 => repeat (first | exact (Kd.C_below HR0.out HB.out) | (with_reducible refine Kd.C_alloc ?_ _) | (with_reducible refine Kd.C_drewN ?_ _) | (with_reducible refine Kd.C_drew ?_))); (case side2 => exact HC0.out); (case side3 => repeat (first | exact (Kd.C_below HR1.out HB.out) | (with_reducible refine Kd.C_alloc ?_ _) | (with_reducible refine Kd.C_drewN ?_ _) | (with_reducible refine Kd.C_drew ?_))); (case side4 => exact HC1.out); rintro e w33 ⟨v206, rfl, ho0, hb⟩; refine ⟨_, rfl, ?_⟩; have n0_ := Aside0.mk (Kd.R_elder' (by (with_reducible repeat (first | apply Kd.R_alloc | apply Kd.R_drewN | apply Kd.R_drew)); exact HO203.out) (Kd.R_base ho0) hb); have n1_ := Aside0.mk (Kd.R_lower (Kd.R_new' ho0 (Kd.R_lt (by (with_reducible repeat (first | apply Kd.R_alloc | apply Kd.R_drewN | apply Kd.R_drew)); exact HO203.out))) (below_size (by repeat (first | (with_reducible first | exact HB.out | apply below_alloc | apply pw_below_drewN | apply below_drew1) | exact HB.out)))); have n2_ := Aside0.mk (below_step (by repeat (first | (with_reducible first | exact HB.out | apply below_alloc | apply pw_below_drewN | apply below_drew1) | exact HB.out)) hb); clear HO203; clear HB; have HO203 := n0_; have HO207 := n1_; have HB := n2_; clear n0_ n1_ n2_; (try clear hb); (try clear hb2); (try clear hk); (try clear hi); (try clear ho0)) | ((with_reducible refine gate_callee (f := 14) rfl ?_); refine goesL_ (some 35) rfl rfl Try.func14 (by kernel_rfl) rfl #[.slice A0 l0.length c0, .slice A1 l1.length c1] rfl (by (try simp only [List.map_toArray, List.map_cons, List.map_nil]); first | done | rfl | (simp only [List.length_drop, List.length_take]; rfl)) ?_; (with_reducible refine (key_Make.calls _ _ l0 _ _ l1 t208 t209 _ ?side1 ?side2 ?side3 ?side4 A8.out).mono ?_); (case side1 => repeat (first | exact (Kd.C_below HR0.out HB.out) | (with_reducible refine Kd.C_alloc ?_ _) | (with_reducible refine Kd.C_drewN ?_ _) | (with_reducible refine Kd.C_drew ?_))); (case side2 => exact HC0.out); (case side3 => repeat (first | exact (Kd.C_below HR1.out HB.out) | (with_reducible refine Kd.C_alloc ?_ _) | (with_reducible refine Kd.C_drewN ?_ _) | (with_reducible refine Kd.C_drew ?_))); (case side4 => exact HC1.out); rintro e w34 ⟨v210, rfl, ho0, hb⟩; refine ⟨_, rfl, ?_⟩; have n0_ := Aside0.mk (Kd.R_elder' (by (with_reducible repeat (first | apply Kd.R_alloc | apply Kd.R_drewN | apply Kd.R_drew)); exact HO203.out) (Kd.R_base ho0) hb); have n1_ := Aside0.mk (Kd.R_elder' (by (with_reducible repeat (first | apply Kd.R_alloc | apply Kd.R_drewN | apply Kd.R_drew)); exact HO207.out) (Kd.R_base ho0) hb); have n2_ := Aside0.mk (Kd.R_lower (Kd.R_new' (Kd.R_new' ho0 (Kd.R_lt (by (with_reducible repeat (first | apply Kd.R_alloc | apply Kd.R_drewN | apply Kd.R_drew)); exact HO203.out))) (Kd.R_lt (by (with_reducible repeat (first | apply Kd.R_alloc | apply Kd.R_drewN | apply Kd.R_drew)); exact HO207.out))) (below_size (by repeat (first | (with_reducible first | exact HB.out | apply below_alloc | apply pw_below_drewN | apply below_drew1) | exact HB.out)))); have n3_ := Aside0.mk (below_step (by repeat (first | (with_reducible first | exact HB.out | apply below_alloc | apply pw_below_drewN | apply below_drew1) | exact HB.out)) hb); clear HO203; clear HO207; clear HB; have HO203 := n0_; have HO207 := n1_; have HO211 := n2_; have HB := n3_; clear n0_ n1_ n2_ n3_; (try clear hb); (try clear hb2); (try clear hk); (try clear hi); (try clear ho0)) | ((with_reducible refine gate_callee (f := 15) rfl ?_); refine goesL_ (some 41) rfl rfl Try.func15 (by kernel_rfl) rfl #[.slice A0 l0.length c0, .slice A1 l1.length c1] rfl (by (try simp only [List.map_toArray, List.map_cons, List.map_nil]); first | done | rfl | (simp only [List.length_drop, List.length_take]; rfl)) ?_; (with_reducible refine (wireglassref21_Make.calls _ _ l0 _ _ l1 t212 t213 _ ?side1 ?side2 ?side3 ?side4 A9.out).mono ?_); (case side1 => repeat (first | exact (Kd.C_below HR0.out HB.out) | (with_reducible refine Kd.C_alloc ?_ _) | (with_reducible refine Kd.C_drewN ?_ _) | (with_reducible refine Kd.C_drew ?_))); (case side2 => exact HC0.out); (case side3 => repeat (first | exact (Kd.C_below HR1.out HB.out) | (with_reducible refine Kd.C_alloc ?_ _) | (with_reducible refine Kd.C_drewN ?_ _) | (with_reducible refine Kd.C_drew ?_))); (case side4 => exact HC1.out); rintro e w35 ⟨v214, rfl, ho0, hb⟩; refine ⟨_, rfl, ?_⟩; have n0_ := Aside0.mk (Kd.R_elder' (by (with_reducible repeat (first | apply Kd.R_alloc | apply Kd.R_drewN | apply Kd.R_drew)); exact HO203.out) (Kd.R_base ho0) hb); have n1_ := Aside0.mk (Kd.R_elder' (by (with_reducible repeat (first | apply Kd.R_alloc | apply Kd.R_drewN | apply Kd.R_drew)); exact HO207.out) (Kd.R_base ho0) hb); have n2_ := Aside0.mk (Kd.R_elder' (by (with_reducible repeat (first | apply Kd.R_alloc | apply Kd.R_drewN | apply Kd.R_drew)); exact HO211.out) (Kd.R_base ho0) hb); have n3_ := Aside0.mk (Kd.R_lower (Kd.R_new' (Kd.R_new' (Kd.R_new' ho0 (Kd.R_lt (by (with_reducible repeat (first | apply Kd.R_alloc | apply Kd.R_drewN | apply Kd.R_drew)); exact HO203.out))) (Kd.R_lt (by (with_reducible repeat (first | apply Kd.R_alloc | apply Kd.R_drewN | apply Kd.R_drew)); exact HO207.out))) (Kd.R_lt (by (with_reducible repeat (first | apply Kd.R_alloc | apply Kd.R_drewN | apply Kd.R_drew)); exact HO211.out))) (below_size (by repeat (first | (with_reducible first | exact HB.out | apply below_alloc | apply pw_below_drewN | apply below_drew1) | exact HB.out)))); have n4_ := Aside0.mk (below_step (by repeat (first | (with_reducible first | exact HB.out | apply below_alloc | apply pw_below_drewN | apply below_drew1) | exact HB.out)) hb); clear HO203; clear HO207; clear HO211; clear HB; have HO203 := n0_; have HO207 := n1_; have HO211 := n2_; have HO215 := n3_; have HB := n4_; clear n0_ n1_ n2_ n3_ n4_; (try clear hb); (try clear hb2); (try clear hk); (try clear hi); (try clear ho0); have hcv36 := own_string (P := Try.prog) Try.underlying22 Try.underlying5 Try.underlying9 (Kd.own_of_R HO203.out); have hcv37 := own_string (P := Try.prog) Try.underlying22 Try.underlying5 Try.underlying9 (Kd.own_of_R HO207.out); have hcv38 := own_string (P := Try.prog) Try.underlying22 Try.underlying5 Try.underlying9 (Kd.own_of_R HO211.out); have hcv39 := own_string (P := Try.prog) Try.underlying22 Try.underlying5 Try.underlying9 (Kd.own_of_R HO215.out)))
          go_ret
          exact ⟨by first | rfl | (simp [errW_none, errW_some] <;> rfl) | (simp [*, errW_none, errW_some] <;> rfl), by repeat (first | (with_reducible first | exact HB.out | apply below_alloc | apply pw_below_drewN | apply below_drew1) | exact HB.out)⟩
      · rw [if_neg c11] at H
        have c11b0 : (t201 == t205) = false := beq_eq_false_iff_ne.mpr c11
        have c11b1 : (t201 != t205) = true := bne_iff_ne.mpr c11
        obtain rfl := Option.some.inj H
        go_enter Try.func4, Try.ntmps4
        go_wp2_with (first | ((with_reducible refine gate_callee (f := 12) rfl ?_); refine goesL_ (some 23) rfl rfl Try.func12 (by kernel_rfl) rfl #[.slice A0 l0.length c0, .slice A1 l1.length c1] rfl (by (try simp only [List.map_toArray, List.map_cons, List.map_nil]); first | done | rfl | (simp only [List.length_drop, List.length_take]; rfl)) ?_; (with_reducible refine (key_Tag.calls _ _ l0 _ _ l1 t200 t201 _ ?side1 ?side2 ?side3 ?side4 A6.out).mono ?_); (case side1 => repeat (first | exact HR0.out | (with_reducible refine Kd.C_alloc ?_ _) | (with_reducible refine Kd.C_drewN ?_ _) | (with_reducible refine Kd.C_drew ?_))); (case side2 => exact HC0.out); (case side3 => repeat (first | exact HR1.out | (with_reducible refine Kd.C_alloc ?_ _) | (with_reducible refine Kd.C_drewN ?_ _) | (with_reducible refine Kd.C_drew ?_))); (case side4 => exact HC1.out); rintro e w40 ⟨v202, rfl, ho0, hb⟩; refine ⟨_, rfl, ?_⟩; have n0_ := Aside0.mk (Kd.R_lower ho0 (below_size (by repeat (first | (with_reducible first | exact HB.out | apply below_alloc | apply pw_below_drewN | apply below_drew1) | exact HB.out)))); have n1_ := Aside0.mk (below_step (by repeat (first | (with_reducible first | exact HB.out | apply below_alloc | apply pw_below_drewN | apply below_drew1) | exact HB.out)) hb); clear HB; have HO203 := n0_; have HB := n1_; clear n0_ n1_; (try clear hb); (try clear hb2); (try clear hk); (try clear hi); (try clear ho0)) | ((with_reducible refine gate_callee (f := 13) rfl ?_); refine goesL_ (some 29) rfl rfl Try.func13 (by kernel_rfl) rfl #[.slice A0 l0.length c0, .slice A1 l1.length c1] rfl (by (try simp only [List.map_toArray, List.map_cons, List.map_nil]); first | done | rfl | (simp only [List.length_drop, List.length_take]; rfl)) ?_; (with_reducible refine (wireglassref21_Tag.calls _ _ l0 _ _ l1 t204 t205 _ ?side1 ?side2 ?side3 ?side4 A7.out).mono ?_); (case side1 => repeat (first | exact (Kd.C_below HR0.out HB.out) | (with_reducible refine Kd.C_alloc ?_ _) | (with_reducible refine Kd.C_drewN ?_ _) | (with_reducible refine Kd.C_drew ?_))); (case side2 => exact HC0.out); (case side3 => repeat (first | exact (Kd.C_below HR1.out HB.out) | (with_reducible refine Kd.C_alloc ?_ _) | (with_reducible refine Kd.C_drewN ?_ _) | (with_reducible refine Kd.C_drew ?_))); (case side4 => exact HC1.out); rintro e w41 ⟨v206, rfl, ho0, hb⟩; refine ⟨_, rfl, ?_⟩; have n0_ := Aside0.mk (Kd.R_elder' (by (with_reducible repeat (first | apply Kd.R_alloc | apply Kd.R_drewN | apply Kd.R_drew)); exact HO203.out) (Kd.R_base ho0) hb); have n1_ := Aside0.mk (Kd.R_lower (Kd.R_new' ho0 (Kd.R_lt (by (with_reducible repeat (first | apply Kd.R_alloc | apply Kd.R_drewN | apply Kd.R_drew)); exact HO203.out))) (below_size (by repeat (first | (with_reducible first | exact HB.out | apply below_alloc | apply pw_below_drewN | apply below_drew1) | exact HB.out)))); have n2_ := Aside0.mk (below_step (by repeat (first | (with_reducible first | exact HB.out | apply below_alloc | apply pw_below_drewN | apply below_drew1) | exact HB.out)) hb); clear HO203; clear HB; have HO203 := n0_; have HO207 := n1_; have HB := n2_; clear n0_ n1_ n2_; (try clear hb); (try clear hb2); (try clear hk); (try clear hi); (try clear ho0)) | ((with_reducible refine gate_callee (f := 14) rfl ?_); refine goesL_ (some 35) rfl rfl Try.func14 (by kernel_rfl) rfl #[.slice A0 l0.length c0, .slice A1 l1.length c1] rfl (by (try simp only [List.map_toArray, List.map_cons, List.map_nil]); first | done | rfl | (simp only [List.length_drop, List.length_take]; rfl)) ?_; (with_reducible refine (key_Make.calls _ _ l0 _ _ l1 t208 t209 _ ?side1 ?side2 ?side3 ?side4 A8.out).mono ?_); (case side1 => repeat (first | exact (Kd.C_below HR0.out HB.out) | (with_reducible refine Kd.C_alloc ?_ _) | (with_reducible refine Kd.C_drewN ?_ _) | (with_reducible refine Kd.C_drew ?_))); (case side2 => exact HC0.out); (case side3 => repeat (first | exact (Kd.C_below HR1.out HB.out) | (with_reducible refine Kd.C_alloc ?_ _) | (with_reducible refine Kd.C_drewN ?_ _) | (with_reducible refine Kd.C_drew ?_))); (case side4 => exact HC1.out); rintro e w42 ⟨v210, rfl, ho0, hb⟩; refine ⟨_, rfl, ?_⟩; have n0_ := Aside0.mk (Kd.R_elder' (by (with_reducible repeat (first | apply Kd.R_alloc | apply Kd.R_drewN | apply Kd.R_drew)); exact HO203.out) (Kd.R_base ho0) hb); have n1_ := Aside0.mk (Kd.R_elder' (by (with_reducible repeat (first | apply Kd.R_alloc | apply Kd.R_drewN | apply Kd.R_drew)); exact HO207.out) (Kd.R_base ho0) hb); have n2_ := Aside0.mk (Kd.R_lower (Kd.R_new' (Kd.R_new' ho0 (Kd.R_lt (by (with_reducible repeat (first | apply Kd.R_alloc | apply Kd.R_drewN | apply Kd.R_drew)); exact HO203.out))) (Kd.R_lt (by (with_reducible repeat (first | apply Kd.R_alloc | apply Kd.R_drewN | apply Kd.R_drew)); exact HO207.out))) (below_size (by repeat (first | (with_reducible first | exact HB.out | apply below_alloc | apply pw_below_drewN | apply below_drew1) | exact HB.out)))); have n3_ := Aside0.mk (below_step (by repeat (first | (with_reducible first | exact HB.out | apply below_alloc | apply pw_below_drewN | apply below_drew1) | exact HB.out)) hb); clear HO203; clear HO207; clear HB; have HO203 := n0_; have HO207 := n1_; have HO211 := n2_; have HB := n3_; clear n0_ n1_ n2_ n3_; (try clear hb); (try clear hb2); (try clear hk); (try clear hi); (try clear ho0)) | ((with_reducible refine gate_callee (f := 15) rfl ?_); refine goesL_ (some 41) rfl rfl Try.func15 (by kernel_rfl) rfl #[.slice A0 l0.length c0, .slice A1 l1.length c1] rfl (by (try simp only [List.map_toArray, List.map_cons, List.map_nil]); first | done | rfl | (simp only [List.length_drop, List.length_take]; rfl)) ?_; (with_reducible refine (wireglassref21_Make.calls _ _ l0 _ _ l1 t212 t213 _ ?side1 ?side2 ?side3 ?side4 A9.out).mono ?_); (case side1 => repeat (first | exact (Kd.C_below HR0.out HB.out) | (with_reducible refine Kd.C_alloc ?_ _) | (with_reducible refine Kd.C_drewN ?_ _) | (with_reducible refine Kd.C_drew ?_))); (case side2 => exact HC0.out); (case side3 => repeat (first | exact (Kd.C_below HR1.out HB.out) | (with_reducible refine Kd.C_alloc ?_ _) | (with_reducible refine Kd.C_drewN ?_ _) | (with_reducible refine Kd.C_drew ?_))); (case side4 => exact HC1.out); rintro e w43 ⟨v214, rfl, ho0, hb⟩; refine ⟨_, rfl, ?_⟩; have n0_ := Aside0.mk (Kd.R_elder' (by (with_reducible repeat (first | apply Kd.R_alloc | apply Kd.R_drewN | apply Kd.R_drew)); exact HO203.out) (Kd.R_base ho0) hb); have n1_ := Aside0.mk (Kd.R_elder' (by (with_reducible repeat (first | apply Kd.R_alloc | apply Kd.R_drewN | apply Kd.R_drew)); exact HO207.out) (Kd.R_base ho0) hb); have n2_ := Aside0.mk (Kd.R_elder' (by (with_reducible repeat (first | apply Kd.R_alloc | apply Kd.R_drewN | apply Kd.R_drew)); exact HO211.out) (Kd.R_base ho0) hb); have n3_ := Aside0.mk (Kd.R_lower (Kd.R_new' (Kd.R_new' (Kd.R_new' ho0 (Kd.R_lt (by (with_reducible repeat (first | apply Kd.R_alloc | apply Kd.R_drewN | apply Kd.R_drew)); exact HO203.out))) (Kd.R_lt (by (with_reducible repeat (first | apply Kd.R_alloc | apply Kd.R_drewN | apply Kd.R_drew)); exact HO207.out))) (Kd.R_lt (by (with_reducible repeat (first | apply Kd.R_alloc | apply Kd.R_drewN | apply Kd.R_drew)); exact HO211.out))) (below_size (by repeat (first | (with_reducible first | exact HB.out | apply below_alloc | apply pw_below_drewN | apply below_drew1) | exact HB.out)))); have n4_ := Aside0.mk (below_step (by repeat (first | (with_reducible first | exact HB.out | apply below_alloc | apply pw_below_drewN | apply below_drew1) | exact HB.out)) hb); clear HO203; clear HO207; clear HO211; clear HB; have HO203 := n0_; have HO207 := n1_; have HO211 := n2_; have HO215 := n3_; have HB := n4_; clear n0_ n1_ n2_ n3_ n4_; (try clear hb); (try clear hb2); (try clear hk); (try clear hi); (try clear ho0); have hcv44 := own_string (P := Try.prog) Try.underlying22 Try.underlying5 Try.underlying9 (Kd.own_of_R HO203.out); have hcv45 := own_string (P := Try.prog) Try.underlying22 Try.underlying5 Try.underlying9 (Kd.own_of_R HO207.out)))
        go_ret
        exact ⟨by first | rfl | (simp [errW_none, errW_some] <;> rfl) | (simp [*, errW_none, errW_some] <;> rfl), by repeat (first | (with_reducible first | exact HB.out | apply below_alloc | apply pw_below_drewN | apply below_drew1) | exact HB.out)⟩
    · rw [if_neg c10] at H
      have c10b0 : ((strOfNums t200).toList == (strOfNums t204).toList) = false := beq_eq_false_iff_ne.mpr c10
      have c10b1 : ((strOfNums t200).toList != (strOfNums t204).toList) = true := bne_iff_ne.mpr c10
      obtain rfl := Option.some.inj H
      go_enter Try.func4, Try.ntmps4
      go_wp2_with (first | ((with_reducible refine gate_callee (f := 12) rfl ?_); refine goesL_ (some 23) rfl rfl Try.func12 (by kernel_rfl) rfl #[.slice A0 l0.length c0, .slice A1 l1.length c1] rfl (by (try simp only [List.map_toArray, List.map_cons, List.map_nil]); first | done | rfl | (simp only [List.length_drop, List.length_take]; rfl)) ?_; (with_reducible refine (key_Tag.calls _ _ l0 _ _ l1 t200 t201 _ ?side1 ?side2 ?side3 ?side4 A6.out).mono ?_); (case side1 => repeat (first | exact HR0.out | (with_reducible refine Kd.C_alloc ?_ _) | (with_reducible refine Kd.C_drewN ?_ _) | (with_reducible refine Kd.C_drew ?_))); (case side2 => exact HC0.out); (case side3 => repeat (first | exact HR1.out | (with_reducible refine Kd.C_alloc ?_ _) | (with_reducible refine Kd.C_drewN ?_ _) | (with_reducible refine Kd.C_drew ?_))); (case side4 => exact HC1.out); rintro e w46 ⟨v202, rfl, ho0, hb⟩; refine ⟨_, rfl, ?_⟩; have n0_ := Aside0.mk (Kd.R_lower ho0 (below_size (by repeat (first | (with_reducible first | exact HB.out | apply below_alloc | apply pw_below_drewN | apply below_drew1) | exact HB.out)))); have n1_ := Aside0.mk (below_step (by repeat (first | (with_reducible first | exact HB.out | apply below_alloc | apply pw_below_drewN | apply below_drew1) | exact HB.out)) hb); clear HB; have HO203 := n0_; have HB := n1_; clear n0_ n1_; (try clear hb); (try clear hb2); (try clear hk); (try clear hi); (try clear ho0)) | ((with_reducible refine gate_callee (f := 13) rfl ?_); refine goesL_ (some 29) rfl rfl Try.func13 (by kernel_rfl) rfl #[.slice A0 l0.length c0, .slice A1 l1.length c1] rfl (by (try simp only [List.map_toArray, List.map_cons, List.map_nil]); first | done | rfl | (simp only [List.length_drop, List.length_take]; rfl)) ?_; (with_reducible refine (wireglassref21_Tag.calls _ _ l0 _ _ l1 t204 t205 _ ?side1 ?side2 ?side3 ?side4 A7.out).mono ?_); (case side1 => repeat (first | exact (Kd.C_below HR0.out HB.out) | (with_reducible refine Kd.C_alloc ?_ _) | (with_reducible refine Kd.C_drewN ?_ _) | (with_reducible refine Kd.C_drew ?_))); (case side2 => exact HC0.out); (case side3 => repeat (first | exact (Kd.C_below HR1.out HB.out) | (with_reducible refine Kd.C_alloc ?_ _) | (with_reducible refine Kd.C_drewN ?_ _) | (with_reducible refine Kd.C_drew ?_))); (case side4 => exact HC1.out); rintro e w47 ⟨v206, rfl, ho0, hb⟩; refine ⟨_, rfl, ?_⟩; have n0_ := Aside0.mk (Kd.R_elder' (by (with_reducible repeat (first | apply Kd.R_alloc | apply Kd.R_drewN | apply Kd.R_drew)); exact HO203.out) (Kd.R_base ho0) hb); have n1_ := Aside0.mk (Kd.R_lower (Kd.R_new' ho0 (Kd.R_lt (by (with_reducible repeat (first | apply Kd.R_alloc | apply Kd.R_drewN | apply Kd.R_drew)); exact HO203.out))) (below_size (by repeat (first | (with_reducible first | exact HB.out | apply below_alloc | apply pw_below_drewN | apply below_drew1) | exact HB.out)))); have n2_ := Aside0.mk (below_step (by repeat (first | (with_reducible first | exact HB.out | apply below_alloc | apply pw_below_drewN | apply below_drew1) | exact HB.out)) hb); clear HO203; clear HB; have HO203 := n0_; have HO207 := n1_; have HB := n2_; clear n0_ n1_ n2_; (try clear hb); (try clear hb2); (try clear hk); (try clear hi); (try clear ho0)) | ((with_reducible refine gate_callee (f := 14) rfl ?_); refine goesL_ (some 35) rfl rfl Try.func14 (by kernel_rfl) rfl #[.slice A0 l0.length c0, .slice A1 l1.length c1] rfl (by (try simp only [List.map_toArray, List.map_cons, List.map_nil]); first | done | rfl | (simp only [List.length_drop, List.length_take]; rfl)) ?_; (with_reducible refine (key_Make.calls _ _ l0 _ _ l1 t208 t209 _ ?side1 ?side2 ?side3 ?side4 A8.out).mono ?_); (case side1 => repeat (first | exact (Kd.C_below HR0.out HB.out) | (with_reducible refine Kd.C_alloc ?_ _) | (with_reducible refine Kd.C_drewN ?_ _) | (with_reducible refine Kd.C_drew ?_))); (case side2 => exact HC0.out); (case side3 => repeat (first | exact (Kd.C_below HR1.out HB.out) | (with_reducible refine Kd.C_alloc ?_ _) | (with_reducible refine Kd.C_drewN ?_ _) | (with_reducible refine Kd.C_drew ?_))); (case side4 => exact HC1.out); rintro e w48 ⟨v210, rfl, ho0, hb⟩; refine ⟨_, rfl, ?_⟩; have n0_ := Aside0.mk (Kd.R_elder' (by (with_reducible repeat (first | apply Kd.R_alloc | apply Kd.R_drewN | apply Kd.R_drew)); exact HO203.out) (Kd.R_base ho0) hb); have n1_ := Aside0.mk (Kd.R_elder' (by (with_reducible repeat (first | apply Kd.R_alloc | apply Kd.R_drewN | apply Kd.R_drew)); exact HO207.out) (Kd.R_base ho0) hb); have n2_ := Aside0.mk (Kd.R_lower (Kd.R_new' (Kd.R_new' ho0 (Kd.R_lt (by (with_reducible repeat (first | apply Kd.R_alloc | apply Kd.R_drewN | apply Kd.R_drew)); exact HO203.out))) (Kd.R_lt (by (with_reducible repeat (first | apply Kd.R_alloc | apply Kd.R_drewN | apply Kd.R_drew)); exact HO207.out))) (below_size (by repeat (first | (with_reducible first | exact HB.out | apply below_alloc | apply pw_below_drewN | apply below_drew1) | exact HB.out)))); have n3_ := Aside0.mk (below_step (by repeat (first | (with_reducible first | exact HB.out | apply below_alloc | apply pw_below_drewN | apply below_drew1) | exact HB.out)) hb); clear HO203; clear HO207; clear HB; have HO203 := n0_; have HO207 := n1_; have HO211 := n2_; have HB := n3_; clear n0_ n1_ n2_ n3_; (try clear hb); (try clear hb2); (try clear hk); (try clear hi); (try clear ho0)) | ((with_reducible refine gate_callee (f := 15) rfl ?_); refine goesL_ (some 41) rfl rfl Try.func15 (by kernel_rfl) rfl #[.slice A0 l0.length c0, .slice A1 l1.length c1] rfl (by (try simp only [List.map_toArray, List.map_cons, List.map_nil]); first | done | rfl | (simp only [List.length_drop, List.length_take]; rfl)) ?_; (with_reducible refine (wireglassref21_Make.calls _ _ l0 _ _ l1 t212 t213 _ ?side1 ?side2 ?side3 ?side4 A9.out).mono ?_); (case side1 => repeat (first | exact (Kd.C_below HR0.out HB.out) | (with_reducible refine Kd.C_alloc ?_ _) | (with_reducible refine Kd.C_drewN ?_ _) | (with_reducible refine Kd.C_drew ?_))); (case side2 => exact HC0.out); (case side3 => repeat (first | exact (Kd.C_below HR1.out HB.out) | (with_reducible refine Kd.C_alloc ?_ _) | (with_reducible refine Kd.C_drewN ?_ _) | (with_reducible refine Kd.C_drew ?_))); (case side4 => exact HC1.out); rintro e w49 ⟨v214, rfl, ho0, hb⟩; refine ⟨_, rfl, ?_⟩; have n0_ := Aside0.mk (Kd.R_elder' (by (with_reducible repeat (first | apply Kd.R_alloc | apply Kd.R_drewN | apply Kd.R_drew)); exact HO203.out) (Kd.R_base ho0) hb); have n1_ := Aside0.mk (Kd.R_elder' (by (with_reducible repeat (first | apply Kd.R_alloc | apply Kd.R_drewN | apply Kd.R_drew)); exact HO207.out) (Kd.R_base ho0) hb); have n2_ := Aside0.mk (Kd.R_elder' (by (with_reducible repeat (first | apply Kd.R_alloc | apply Kd.R_drewN | apply Kd.R_drew)); exact HO211.out) (Kd.R_base ho0) hb); have n3_ := Aside0.mk (Kd.R_lower (Kd.R_new' (Kd.R_new' (Kd.R_new' ho0 (Kd.R_lt (by (with_reducible repeat (first | apply Kd.R_alloc | apply Kd.R_drewN | apply Kd.R_drew)); exact HO203.out))) (Kd.R_lt (by (with_reducible repeat (first | apply Kd.R_alloc | apply Kd.R_drewN | apply Kd.R_drew)); exact HO207.out))) (Kd.R_lt (by (with_reducible repeat (first | apply Kd.R_alloc | apply Kd.R_drewN | apply Kd.R_drew)); exact HO211.out))) (below_size (by repeat (first | (with_reducible first | exact HB.out | apply below_alloc | apply pw_below_drewN | apply below_drew1) | exact HB.out)))); have n4_ := Aside0.mk (below_step (by repeat (first | (with_reducible first | exact HB.out | apply below_alloc | apply pw_below_drewN | apply below_drew1) | exact HB.out)) hb); clear HO203; clear HO207; clear HO211; clear HB; have HO203 := n0_; have HO207 := n1_; have HO211 := n2_; have HO215 := n3_; have HB := n4_; clear n0_ n1_ n2_ n3_ n4_; (try clear hb); (try clear hb2); (try clear hk); (try clear hi); (try clear ho0); have hcv50 := own_string (P := Try.prog) Try.underlying22 Try.underlying5 Try.underlying9 (Kd.own_of_R HO203.out); have hcv51 := own_string (P := Try.prog) Try.underlying22 Try.underlying5 Try.underlying9 (Kd.own_of_R HO207.out)))
      go_ret
      exact ⟨by first | rfl | (simp [errW_none, errW_some] <;> rfl) | (simp [*, errW_none, errW_some] <;> rfl), by repeat (first | (with_reducible first | exact HB.out | apply below_alloc | apply pw_below_drewN | apply below_drew1) | exact HB.out)⟩

/-- THE ONE PURE STATEMENT of wireglasslaw21_KeyTags: yours. -/
def wireglasslaw21_KeyTags.Pure : Prop := ∀ (l0 : List Int) (l1 : List Int), l0.length ≤ maxLen → l0.length * 1 ≤ 140737488351232 → (∀ x ∈ l0, (Lit.int .u8 x).wf = true) → l1.length ≤ maxLen → l1.length * 1 ≤ 140737488351232 → (∀ x ∈ l1, (Lit.int .u8 x).wf = true) → wireglasslaw21_KeyTags.f l0 l1 = some true
theorem wireglasslaw21_KeyTags.walk (P : wireglasslaw21_KeyTags.Pure) (a0 : Option Addr) (len0 cap0 : Nat) (z0 : List Int) (a1 : Option Addr) (len1 cap1 : Nat) (z1 : List Int) (w : World) (w0 : (a0 = none ∧ len0 = 0 ∧ cap0 = 0 ∧ z0 = []) ∨ ∃ x, a0 = some x ∧ len0 ≤ cap0 ∧ cap0 ≤ maxLen ∧ z0.length = cap0 ∧ (∀ i, i < z0.length → w.cell? (x.add i) = some (.int .u8 (z0.getD i 0))) ∧ ∀ n ∈ z0, (Lit.int .u8 n).wf = true) (y0 : len0 * 1 ≤ 140737488351232) (w1 : (a1 = none ∧ len1 = 0 ∧ cap1 = 0 ∧ z1 = []) ∨ ∃ x, a1 = some x ∧ len1 ≤ cap1 ∧ cap1 ≤ maxLen ∧ z1.length = cap1 ∧ (∀ i, i < z1.length → w.cell? (x.add i) = some (.int .u8 (z1.getD i 0))) ∧ ∀ n ∈ z1, (Lit.int .u8 n).wf = true) (y1 : len1 * 1 ≤ 140737488351232) :
    Calls Try.prog 4 #[.slice a0 len0 cap0, .slice a1 len1 cap1] w fun e w' => e = .returned (.bool true) ∧ Below w.heap.size w w' := by
  obtain ⟨l0, rfl, hr0, hm0, hw0, hc0⟩ := ReadsInt.ofRowC w0
  obtain ⟨l1, rfl, hr1, hm1, hw1, hc1⟩ := ReadsInt.ofRowC w1
  have h := P l0 l1 hm0 y0 hw0 hm1 y1 hw1
  refine (wireglasslaw21_KeyTags.calls _ _ l0 _ _ l1 true w (Kd.C_of_reads (d := (0 : Int)) (h1 := fun _ => rfl) hr0) hc0 (Kd.C_of_reads (d := (0 : Int)) (h1 := fun _ => rfl) hr1) hc1 h).mono ?_
  rintro e w' ⟨rfl, hd⟩
  exact ⟨rfl, hd⟩

-- NOT PRINTED: function 60 (bytealg_Compare)

/-! ### bytes_Compare: function 42 -/
-- EXT HIDDEN
theorem C_none {w : World} {n : Nat} {l : List Int} (h : Kd.C (Kd.int .u8) w none n l) : l = [] ∧ n = 0 := by
  have hl := h.1
  by_cases h0 : 0 < n
  · obtain ⟨ad, e, _⟩ := h.2.2 h0
    cases e
  · exact ⟨List.eq_nil_of_length_eq_zero (by omega), by omega⟩
theorem run_bytesOf {w : World} {A : Option Addr} {n c : Nat} {l : List Int} (h : Kd.C (Kd.int .u8) w A n l) : (Extern.Bytes.bytesOf (.slice A n c)).run Try.prog w = .ok ⟨(Lib.bytesOf l).toArray⟩ w := by
  cases A with
  | none =>
    obtain ⟨rfl, rfl⟩ := C_none h
    rfl
  | some ad =>
    have hr := Kd.reads_of_C (enc := Value.int .u8) (d := (0 : Int)) (h1 := fun _ => rfl) h
    have hl := Lib.run_loadBytesX (P := Try.prog) w l ad .empty (fun j x hj => by
      have hjl : j < l.length := (List.getElem?_eq_some_iff.1 hj).1
      obtain ⟨ad', e, hc⟩ := hr.2.2 (by have := hr.1; omega)
      cases e
      rw [hc j (by have := hr.1; omega), List.getD_eq_getElem?_getD, hj]
      rfl)
    rw [hr.1] at hl
    have he : (⟨ByteArray.empty.data ++ (Lib.bytesOf l).toArray⟩ : ByteArray) = ⟨(Lib.bytesOf l).toArray⟩ := by
      apply ByteArray.ext
      show (#[] : Array UInt8) ++ (Lib.bytesOf l).toArray = (Lib.bytesOf l).toArray
      simp
    rw [he] at hl
    exact hl
theorem run_compare {w : World} {A B : Option Addr} {n c m d : Nat} {l k : List Int} (h : Kd.C (Kd.int .u8) w A n l) (h2 : Kd.C (Kd.int .u8) w B m k) : (Extern.BytealgCompare.compare #[.slice A n c, .slice B m d]).run Try.prog w = .ok (.int .i64 (Lib.compareBytes (Lib.bytesOf l) (Lib.bytesOf k))) w := by
  have e1 := run_bytesOf (c := c) h
  have e2 := run_bytesOf (c := d) h2
  change Sem.run Try.prog (do pure (goInt (Extern.BytealgCompare.cmp (← Extern.Bytes.bytesOf (.slice A n c)) (← Extern.Bytes.bytesOf (.slice B m d))))) w = _
  simp only [Sem.run_bind, Sem.run_pure, Result.andThen, e1, e2]
  rw [Lib.cmp_eq]
  rfl
set_option maxHeartbeats 2000000 in
set_option maxRecDepth 100000 in
theorem compare.calls (A0 : Option Addr) (c0 m0 : Nat) (l0 : List Int) (A1 : Option Addr) (c1 m1 : Nat) (l1 : List Int) (w : World) (hr0 : Kd.C (Kd.int .u8) w A0 m0 l0) (hr1 : Kd.C (Kd.int .u8) w A1 m1 l1) :
    Calls Try.prog 42 #[.slice A0 m0 c0, .slice A1 m1 c1] w fun e w' => e = .returned (.int .i64 (Lib.compareBytes (Lib.bytesOf l0) (Lib.bytesOf l1))) ∧ w = w' := by
  have HR := Aside0.mk (run_compare (c := c0) (d := c1) hr0 hr1)
  clear hr0 hr1
  go_enter Try.func42, Try.ntmps42
  go_wp2
  rw [run_callFunc_extern Try.func60 (by kernel_rfl) (by kernel_rfl) (by kernel_rfl) (e := Extern.BytealgCompare.compare) (by kernel_rfl), HR.out]
  simp only [Result.andThen]
  rw [Oper.upon_value]
  go_wp2
  go_ret
  exact ⟨rfl, rfl⟩

/-! ### bytes_Clone: function 43 -/
-- EXT HIDDEN
set_option maxHeartbeats 2000000 in
set_option maxRecDepth 100000 in
theorem clone.calls (A0 : Option Addr) (c0 m0 : Nat) (l0 : List Int) (w : World) (hr0 : Kd.C (Kd.int .u8) w A0 m0 l0) (hbig : m0 ≤ 1000000) :
    Calls Try.prog 43 #[.slice A0 m0 c0] w fun e w' => ∃ v0_ : Value, e = .returned v0_ ∧ Kd.R (Kd.int .u8) 5 w' w.heap.size (fun _ => True) v0_ l0 ∧ Below w.heap.size w w' := by
  have q22 : ∀ (w : World) (a : Option Addr) (n c n' c' : Nat), (binOp .eql 22 (.slice a n c) (.slice none n' c')).run Try.prog w = .ok (.bool a.isNone) w := fun w a n c n' c' => Lib.run_eql_slice_nil w _ _ a n c n' c' Try.underlying22
  cases A0 with
  | none =>
    obtain ⟨rfl, rfl⟩ := C_none hr0
    clear hr0
    go_enter Try.func43, Try.ntmps43
    go_wp2
    go_ret
    exact ⟨_, rfl, Kd.R_nil _ _ _ _ _, Below.refl _ _⟩
  | some ad =>
    have HR0 := Aside0.mk hr0
    clear hr0
    go_enter Try.func43, Try.ntmps43
    go_wp2_with ((with_reducible refine gate_builtin (b := .append) (xs := #[.tmp 5, .tmp 6]) rfl ?_); at_builtin; refine Kd.R_append_rows (Kd.int .u8) (w0 := w) w.heap.size rfl (.tmp 5) (.tmp 6) 22 5 (.int .u8 0) 1 rfl Try.underlying22 info5 rfl (by decide) (by omega) _ [] l0 _ _ _ (fun _ => True) (fun _ => False) rfl rfl (lit_R w w.heap.size [] (Nat.le_refl _) (by simp)) (Kd.C_alloc HR0.out _) (fun _ _ h => h) (fun _ h => h.elim) (fun _ _ => trivial) (below_alloc (Below.refl _ _) _) ?aS ?aL ?_; (case aS => simp); (case aL => simp only [List.length_nil]; omega); intro v6 w6 ho hb _ _; have HO6 := Aside0.mk ho; have HB6 := Aside0.mk hb; clear ho hb)
    go_ret
    exact ⟨_, rfl, HO6.out, HB6.out⟩

/-! ### key_Hand: function 16 -/
-- EXT rounds=0 making=1
/-- The key of a phrase and a name, mixed again and again; the two numbers in their order. -/
def handX (p n : List Int) : Nat → List Int
  | 0 => derN p n 4
  | i + 1 => derN (handX p n i) n 4
def handS (a c : List Int) : List Int := if 0 < Lib.compareBytes (Lib.bytesOf a) (Lib.bytesOf c) then c ++ a else a ++ c
def handOk (s0 s1 : ByteArray) (l2 l3 : List Int) : Prop := ((1 ≤ s0.size ∧ s0.size ≤ 60) ∧ (1 ≤ s1.size ∧ s1.size ≤ 60)) ∧ (l2.length = 16 ∧ l3.length = 16)
instance (s0 s1 : ByteArray) (l2 l3 : List Int) : Decidable (handOk s0 s1 l2 l3) := by unfold handOk; infer_instance
def handA (s0 s1 : ByteArray) (l2 l3 : List Int) : List Int × Int := if handOk s0 s1 l2 l3 then (derN (handX (bytesOf s0) (bytesOf s1) 50) (handS l2 l3) 4, 0) else ([], 1)
def key_Hand.f (a0 a1 : ByteArray) (l2 l3 : List Int) : Option (List Int × Int) := if l2.all isByteK = true ∧ l3.all isByteK = true then some (handA a0 a1 l2 l3) else none
theorem bytesOf_byteL (s : ByteArray) : ByteL (bytesOf s) := by
  intro x hx
  obtain ⟨b, _, rfl⟩ := List.mem_map.1 hx
  have := b.toNat_lt
  omega
theorem handX_length (p n : List Int) : ∀ i, (handX p n i).length = 32
  | 0 => derN_length _ _ 4
  | _ + 1 => derN_length _ _ 4
theorem handX_byte (p n : List Int) : ∀ i, ByteL (handX p n i)
  | 0 => derN_byte _ _ 4
  | _ + 1 => derN_byte _ _ 4
theorem der_is {s t : List Int} (hs : s.length ≤ 1000000) (ht : t.length ≤ 1000000) (hb : ByteL s) (hb2 : ByteL t) : key_derived.f s t = some (derN s t 4) := by
  unfold key_derived.f
  rw [if_pos ⟨⟨hs, ht⟩, allB hb, allB hb2⟩]
theorem conv_C (w : World) (s : ByteArray) (hs : s.size ≤ 1000000) : Kd.C (Kd.int .u8) (Lib.bytesWorld w 5 s) (some ⟨w.heap.size, 0, none⟩) s.size (bytesOf s) := Kd.C_of_reads (d := (0 : Int)) (h1 := fun _ => rfl) (bytes_reads w 5 s (by omega))
theorem conv_below (w : World) (s : ByteArray) : Below w.heap.size w (Lib.bytesWorld w 5 s) := by
  refine ⟨rfl, rfl, rfl, ?_, fun i hi => ?_⟩
  · rw [Lib.bytesWorld_size]; omega
  · exact Lib.bytesWorld_at_old w _ s i hi
theorem conv_run (s : ByteArray) (w : World) : (convert 9 22 (.string s)).run Try.prog w = .ok (.slice (some ⟨w.heap.size, 0, none⟩) s.size (grownCap w s.size 0 5)) (Lib.bytesWorld w 5 s) := Lib.run_convert_string_bytes w 9 22 5 s Try.underlying9 Try.underlying22 Try.underlying5
theorem str_some (s : ByteArray) (h : 1 ≤ s.size) : s.toList.isEmpty = false ∧ (s.toList = []) = False := by
  have e := Lib.toList_data s
  have hl : s.data.toList.length = s.size := by simp
  rw [e]
  cases hd : s.data.toList with
  | nil => rw [hd] at hl; simp at hl; omega
  | cons a b => simp
theorem str_none (s : ByteArray) (h : s.size = 0) : s.toList = [] := by
  have e := Lib.toList_data s
  have hl : s.data.toList.length = s.size := by simp
  rw [e]
  cases hd : s.data.toList with
  | nil => rfl
  | cons a b => rw [hd] at hl; simp at hl; omega
theorem derived.callsm (A0 : Option Addr) (c0 m0 : Nat) (l0 : List Int) (A1 : Option Addr) (c1 m1 : Nat) (l1 : List Int) (w : World) (hm0 : l0.length = m0) (hm1 : l1.length = m1) (hb0 : m0 ≤ 1000000) (hb1 : m1 ≤ 1000000) (hy0 : ByteL l0) (hy1 : ByteL l1) (hr0 : Kd.C (Kd.int .u8) w A0 m0 l0) (hc0 : m0 ≤ c0) (hr1 : Kd.C (Kd.int .u8) w A1 m1 l1) (hc1 : m1 ≤ c1) :
    Calls Try.prog 40 #[.slice A0 m0 c0, .slice A1 m1 c1] w fun e w' => ∃ (A : Option Addr) (c : Nat), e = .returned (.slice A 32 c) ∧ Kd.R (Kd.int .u8) 5 w' w.heap.size (fun _ => True) (.slice A 32 c) (derN l0 l1 4) ∧ Below w.heap.size w w' := by
  subst hm0 hm1
  refine (key_derived.calls A0 c0 l0 A1 c1 l1 _ w hr0 hc0 hr1 hc1 (der_is hb0 hb1 hy0 hy1)).mono ?_
  rintro e w' ⟨v, rfl, ho, hb⟩
  obtain ⟨A, c, e⟩ := Kd.R_slice ho
  rw [derN_length] at e
  subst e
  exact ⟨A, c, rfl, ho, hb⟩
set_option maxHeartbeats 8000000 in
set_option maxRecDepth 100000 in
theorem key_Hand.calls (a0 a1 : ByteArray) (A2 : Option Addr) (c2 : Nat) (l2 : List Int) (A3 : Option Addr) (c3 : Nat) (l3 : List Int) (r1 : List Int) (r2 : Int) (w : World) (hr2 : Kd.C (Kd.int .u8) w A2 l2.length l2) (hc2 : l2.length ≤ c2) (hr3 : Kd.C (Kd.int .u8) w A3 l3.length l3) (hc3 : l3.length ≤ c3) (h : key_Hand.f a0 a1 l2 l3 = some (r1, r2)) :
    Calls Try.prog 16 #[.string a0, .string a1, .slice A2 l2.length c2, .slice A3 l3.length c3] w fun e w' => ∃ v0_ : Value, e = .returned (.tuple #[v0_, .int .i64 r2]) ∧ Kd.R (Kd.int .u8) 5 w' w.heap.size (fun _ => True) v0_ r1 ∧ Below w.heap.size w w' := by
  have hq : (ByteL l2 ∧ ByteL l3) ∧ handA a0 a1 l2 l3 = (r1, r2) := by
    unfold key_Hand.f at h
    split at h
    · rename_i hc
      exact ⟨⟨byteL_all hc.1, byteL_all hc.2⟩, Option.some.inj h⟩
    · cases h
  clear h
  obtain ⟨⟨hb2, hb3⟩, he⟩ := hq
  have HY2 := Aside0.mk hb2
  have HY3 := Aside0.mk hb3
  have HR2 := Aside0.mk hr2
  have HR3 := Aside0.mk hr3
  have HC2 := Aside0.mk hc2
  have HC3 := Aside0.mk hc3
  clear hb2 hb3 hr2 hr3 hc2 hc3
  unfold handA at he
  by_cases ok : handOk a0 a1 l2 l3
  · rw [if_pos ok] at he
    have he1 := congrArg Prod.fst he
    have he2 := congrArg Prod.snd he
    simp only at he1 he2
    subst he2
    have HE := Aside0.mk he1
    have HOK := Aside0.mk ok
    obtain ⟨⟨⟨p1, p2⟩, p3, p4⟩, p5, p6⟩ := ok
    clear he he1
    have f1 := (str_some a0 p1).1
    have f2 := (str_some a0 p1).2
    have f3 := (str_some a1 p3).1
    have f4 := (str_some a1 p3).2
    have g1 : decide (60 < (a0.size : Int)) = false := decide_eq_false (by omega)
    have g2 : decide (60 < a0.size) = false := decide_eq_false (by omega)
    have g3 : decide (60 < (a1.size : Int)) = false := decide_eq_false (by omega)
    have g4 : decide (60 < a1.size) = false := decide_eq_false (by omega)
    have q0 := conv_run a0
    have q1 := conv_run a1
    clear p1 p2 p3 p4
    go_enter Try.func16, Try.ntmps16
    have HW2 : Aside0 (Kd.C (Kd.int .u8) w A2 16 l2) := ⟨by have h := HR2.out; rw [p5] at h; exact h⟩
    have HW3 : Aside0 (Kd.C (Kd.int .u8) w A3 16 l3) := ⟨by have h := HR3.out; rw [p6] at h; exact h⟩
    have HLl2 := Aside0.mk p5
    have HLl3 := Aside0.mk p6
    have HSL : Aside0 ((handS l2 l3).length = 32) := ⟨by unfold handS; split <;> (rw [List.length_append, p5, p6])⟩
    have HSB : Aside0 (ByteL (handS l2 l3)) := ⟨by unfold handS; split <;> first | exact byteL_append HY3.out HY2.out | exact byteL_append HY2.out HY3.out⟩
    have HSZ0 : Aside0 (a0.size ≤ 1000000) := ⟨by have h := HOK.out.1.1.2; omega⟩
    have HSZ1 : Aside0 (a1.size ≤ 1000000) := ⟨by have h := HOK.out.1.2.2; omega⟩
    go_wp2_with (go_at_call 40; (with_reducible refine (derived.callsm _ _ a0.size (bytesOf a0) _ _ a1.size (bytesOf a1) _ (bytesOf_length a0) (bytesOf_length a1) HSZ0.out HSZ1.out (bytesOf_byteL a0) (bytesOf_byteL a1) (Kd.C_below (conv_C w a0 HSZ0.out) (conv_below _ a1)) (grownCap_ge _ _ _ _) (conv_C _ a1 HSZ1.out) (grownCap_ge _ _ _ _)).mono ?_); rintro e w2 ⟨A9, c9, rfl, ho, hb⟩; have hbb := (conv_below w a0).trans ((conv_below (Lib.bytesWorld w 5 a0) a1).mono (conv_below w a0).size); have HB2 := Aside0.mk (hbb.trans (hb.mono hbb.size)); have HO2 := Aside0.mk (Kd.R_lower ho hbb.size); clear ho hb hbb)
    clear f1 f2 f3 f4 g1 g2 g3 g4 q0
    go_loopg [10, 42] 50 (fun q s10 s42 wx => ∃ (i : Nat) (A : Option Addr) (c : Nat), i + q = 50 ∧ s42 = .int .i64 i ∧ s10 = .slice A 32 c ∧ Aside0 (Kd.R (Kd.int .u8) 5 wx w.heap.size (fun _ => True) (.slice A 32 c) (handX (bytesOf a0) (bytesOf a1) i)) ∧ Aside0 (Below w.heap.size w wx))
    case atStart => exact ⟨0, _, _, by omega, rfl, rfl, HO2, HB2⟩
    case round =>
      clear HO2 HB2
      obtain ⟨i, A, c, hig, rfl, rfl, HO, HB⟩ := hrel
      cases gk with
      | succ q =>
        have hi : i < 50 := by omega
        have hi2 : (i : Int) < 50 := by omega
        go_wp2_with (go_at_call 40; (with_reducible refine (derived.callsm A _ 32 (handX (bytesOf a0) (bytesOf a1) i) _ _ a1.size (bytesOf a1) _ (handX_length _ _ _) (bytesOf_length a1) (by decide) HSZ1.out (handX_byte _ _ _) (bytesOf_byteL a1) ?r0 ?r1 (conv_C _ a1 HSZ1.out) (grownCap_ge _ _ _ _)).mono ?_); (case r0 => have h := (Kd.R_reads' (Kd.R_below HO.out (conv_below wr a1))).2.2; rw [handX_length] at h; exact h); (case r1 => exact (Kd.R_reads' HO.out).2.1); rintro e w2 ⟨A9, c9, rfl, ho, hb⟩; have hbb := HB.out.trans ((conv_below wr a1).mono HB.out.size); have HB2 := Aside0.mk (hbb.trans (hb.mono hbb.size)); have HO2 := Aside0.mk (Kd.R_lower ho hbb.size); clear ho hb hbb)
        go_roundg q
        case measure => omega
        case rel => exact ⟨i + 1, A9, c9, by omega, by first | rfl | simp, rfl, HO2, HB2⟩
      | zero =>
        obtain rfl : i = 50 := by omega
        clear hig q1
        obtain ⟨X, hX⟩ : ∃ X, Lib.compareBytes (Lib.bytesOf l2) (Lib.bytesOf l3) = X := ⟨_, rfl⟩
        by_cases hx : 0 < X
        · have HS : Aside0 (handS l2 l3 = l3 ++ l2) := ⟨by unfold handS; rw [hX, if_pos hx]⟩
          have hxb : decide (0 < Lib.compareBytes (Lib.bytesOf l2) (Lib.bytesOf l3)) = true := decide_eq_true (by rw [hX]; exact hx)
          clear hX hx
          go_wp2_with (first
            | (go_at_call 42; (with_reducible refine (compare.calls A2 _ 16 l2 A3 _ 16 l3 _ (Kd.C_below HW2.out HB.out) (Kd.C_below HW3.out HB.out)).mono ?_); rintro e w' ⟨rfl, rfl⟩)
            | (go_at_call 43; (with_reducible refine (clone.calls A3 _ 16 l3 _ (Kd.C_below HW3.out HB.out) (by decide)).mono ?_); rintro e w3 ⟨v3, rfl, ho, hb⟩; obtain ⟨A4, c4, e4⟩ := Kd.R_slice ho; obtain ⟨m4, hm4⟩ : ∃ m, (l3 : List Int).length = m := ⟨_, rfl⟩; rw [hm4] at e4; subst e4; have HO3 := Aside0.mk ho; have HB3x := Aside0.mk hb; have HB3 := Aside0.mk (HB.out.trans (hb.mono HB.out.size)); clear ho hb hm4)
            | ((with_reducible refine gate_builtin (b := .append) (xs := #[.tmp 57, .tmp 58]) rfl ?_); at_builtin; refine Kd.R_append_rows (Kd.int .u8) (w0 := wr) wr.heap.size rfl (.tmp 57) (.tmp 58) 22 5 (.int .u8 0) 1 rfl Try.underlying22 info5 rfl (by decide) (by omega) _ l3 l2 _ 16 _ (fun _ => True) (fun _ => False) rfl rfl HO3.out (Kd.C_below HW2.out HB3.out) (fun _ _ h => h) (fun _ h => h.elim) (fun _ _ => trivial) HB3x.out ?aS ?aL ?_; (case aS => exact HB3x.out.size); (case aL => have := HLl3.out; omega); intro v5 w5 ho hb _ _; rw [← HS.out] at ho; obtain ⟨A5, c5, e5⟩ := Kd.R_slice ho; rw [HSL.out] at e5; subst e5; have HO5 := Aside0.mk ho; have HB5x := Aside0.mk hb; have HB5 := Aside0.mk (HB.out.trans (hb.mono HB.out.size)); clear ho hb)
            | (go_at_call 40; (with_reducible refine (derived.callsm _ _ 32 (handX (bytesOf a0) (bytesOf a1) 50) _ _ 32 (handS l2 l3) _ (handX_length _ _ _) HSL.out (by decide) (by decide) (handX_byte _ _ _) HSB.out ?r0 ?r1 ?r2 ?r3).mono ?_); (case r0 => have h := (Kd.R_reads' (Kd.R_below HO.out HB5x.out)).2.2; rw [handX_length] at h; exact h); (case r1 => have h := (Kd.R_reads' HO.out).2.1; exact h); (case r2 => have h := (Kd.R_reads' HO5.out).2.2; rw [HSL.out] at h; exact h); (case r3 => exact (Kd.R_reads' HO5.out).2.1); rintro e w6 ⟨A6, c6, rfl, ho, hb⟩; have HO6 := Aside0.mk ho; have HB6 := Aside0.mk (HB5.out.trans (hb.mono HB5.out.size)); clear ho hb))
          go_ret2
          exact ⟨_, rfl, by rw [← HE.out]; exact Kd.R_lower HO6.out HB5.out.size, HB6.out⟩
        · have HS : Aside0 (handS l2 l3 = l2 ++ l3) := ⟨by unfold handS; rw [hX, if_neg hx]⟩
          have hxb : decide (0 < Lib.compareBytes (Lib.bytesOf l2) (Lib.bytesOf l3)) = false := decide_eq_false (by rw [hX]; exact hx)
          clear hX hx
          go_wp2_with (first
            | (go_at_call 42; (with_reducible refine (compare.calls A2 _ 16 l2 A3 _ 16 l3 _ (Kd.C_below HW2.out HB.out) (Kd.C_below HW3.out HB.out)).mono ?_); rintro e w' ⟨rfl, rfl⟩)
            | (go_at_call 43; (with_reducible refine (clone.calls A2 _ 16 l2 _ (Kd.C_below HW2.out HB.out) (by decide)).mono ?_); rintro e w3 ⟨v3, rfl, ho, hb⟩; obtain ⟨A4, c4, e4⟩ := Kd.R_slice ho; obtain ⟨m4, hm4⟩ : ∃ m, (l2 : List Int).length = m := ⟨_, rfl⟩; rw [hm4] at e4; subst e4; have HO3 := Aside0.mk ho; have HB3x := Aside0.mk hb; have HB3 := Aside0.mk (HB.out.trans (hb.mono HB.out.size)); clear ho hb hm4)
            | ((with_reducible refine gate_builtin (b := .append) (xs := #[.tmp 57, .tmp 58]) rfl ?_); at_builtin; refine Kd.R_append_rows (Kd.int .u8) (w0 := wr) wr.heap.size rfl (.tmp 57) (.tmp 58) 22 5 (.int .u8 0) 1 rfl Try.underlying22 info5 rfl (by decide) (by omega) _ l2 l3 _ 16 _ (fun _ => True) (fun _ => False) rfl rfl HO3.out (Kd.C_below HW3.out HB3.out) (fun _ _ h => h) (fun _ h => h.elim) (fun _ _ => trivial) HB3x.out ?aS ?aL ?_; (case aS => exact HB3x.out.size); (case aL => have := HLl2.out; omega); intro v5 w5 ho hb _ _; rw [← HS.out] at ho; obtain ⟨A5, c5, e5⟩ := Kd.R_slice ho; rw [HSL.out] at e5; subst e5; have HO5 := Aside0.mk ho; have HB5x := Aside0.mk hb; have HB5 := Aside0.mk (HB.out.trans (hb.mono HB.out.size)); clear ho hb)
            | (go_at_call 40; (with_reducible refine (derived.callsm _ _ 32 (handX (bytesOf a0) (bytesOf a1) 50) _ _ 32 (handS l2 l3) _ (handX_length _ _ _) HSL.out (by decide) (by decide) (handX_byte _ _ _) HSB.out ?r0 ?r1 ?r2 ?r3).mono ?_); (case r0 => have h := (Kd.R_reads' (Kd.R_below HO.out HB5x.out)).2.2; rw [handX_length] at h; exact h); (case r1 => have h := (Kd.R_reads' HO.out).2.1; exact h); (case r2 => have h := (Kd.R_reads' HO5.out).2.2; rw [HSL.out] at h; exact h); (case r3 => exact (Kd.R_reads' HO5.out).2.1); rintro e w6 ⟨A6, c6, rfl, ho, hb⟩; have HO6 := Aside0.mk ho; have HB6 := Aside0.mk (HB5.out.trans (hb.mono HB5.out.size)); clear ho hb))
          go_ret2
          exact ⟨_, rfl, by rw [← HE.out]; exact Kd.R_lower HO6.out HB5.out.size, HB6.out⟩
  · rw [if_neg ok] at he
    cases he
    by_cases k0 : a0.size = 0
    · have f0 := str_none a0 k0
      have g0 : a0.toList.isEmpty = true := by rw [f0]; rfl
      clear ok
      go_enter Try.func16, Try.ntmps16
      go_wp2
      go_ret2
      exact ⟨_, rfl, Kd.R_nil _ _ _ _ _, Below.refl _ _⟩
    have f0 := (str_some a0 (by omega)).1
    have g0 := (str_some a0 (by omega)).2
    by_cases k1 : 60 < a0.size
    · have f1 : decide (60 < (a0.size : Int)) = true := decide_eq_true (by omega)
      have g1 : decide (60 < a0.size) = true := decide_eq_true (by omega)
      clear ok
      go_enter Try.func16, Try.ntmps16
      go_wp2
      go_ret2
      exact ⟨_, rfl, Kd.R_nil _ _ _ _ _, Below.refl _ _⟩
    have f1 : decide (60 < (a0.size : Int)) = false := decide_eq_false (by omega)
    have g1 : decide (60 < a0.size) = false := decide_eq_false (by omega)
    by_cases k2 : a1.size = 0
    · have f2 := str_none a1 k2
      have g2 : a1.toList.isEmpty = true := by rw [f2]; rfl
      clear ok
      go_enter Try.func16, Try.ntmps16
      go_wp2
      go_ret2
      exact ⟨_, rfl, Kd.R_nil _ _ _ _ _, Below.refl _ _⟩
    have f2 := (str_some a1 (by omega)).1
    have g2 := (str_some a1 (by omega)).2
    by_cases k3 : 60 < a1.size
    · have f3 : decide (60 < (a1.size : Int)) = true := decide_eq_true (by omega)
      have g3 : decide (60 < a1.size) = true := decide_eq_true (by omega)
      clear ok
      go_enter Try.func16, Try.ntmps16
      go_wp2
      go_ret2
      exact ⟨_, rfl, Kd.R_nil _ _ _ _ _, Below.refl _ _⟩
    have f3 : decide (60 < (a1.size : Int)) = false := decide_eq_false (by omega)
    have g3 : decide (60 < a1.size) = false := decide_eq_false (by omega)
    by_cases k4 : l2.length ≠ 16
    · have f4 : ((l2.length : Int) == 16) = false := beq_eq_false_iff_ne.2 (by omega)
      have g4 : ((l2.length : Int) != 16) = true := bne_iff_ne.2 (by omega)
      clear ok
      go_enter Try.func16, Try.ntmps16
      go_wp2
      go_ret2
      exact ⟨_, rfl, Kd.R_nil _ _ _ _ _, Below.refl _ _⟩
    have f4 : ((l2.length : Int) == 16) = true := beq_iff_eq.2 (by omega)
    have g4 : ((l2.length : Int) != 16) = false := by simp only [bne, f4]; rfl
    by_cases k5 : l3.length ≠ 16
    · have f5 : ((l3.length : Int) == 16) = false := beq_eq_false_iff_ne.2 (by omega)
      have g5 : ((l3.length : Int) != 16) = true := bne_iff_ne.2 (by omega)
      clear ok
      go_enter Try.func16, Try.ntmps16
      go_wp2
      go_ret2
      exact ⟨_, rfl, Kd.R_nil _ _ _ _ _, Below.refl _ _⟩
    have f5 : ((l3.length : Int) == 16) = true := beq_iff_eq.2 (by omega)
    have g5 : ((l3.length : Int) != 16) = false := by simp only [bne, f5]; rfl
    exact absurd ⟨⟨⟨by omega, by omega⟩, by omega, by omega⟩, by omega, by omega⟩ ok

end Go.Proofs.Ytpkmfaloncclaaa.G
