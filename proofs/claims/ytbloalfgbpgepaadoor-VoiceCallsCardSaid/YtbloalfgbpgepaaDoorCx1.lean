/- Laid by a program of this repo over the translation: each Go function as a plain Lean function with the proof that the call comes to its answers, or a statement's row out of these; conditions: the hypotheses of each theorem. -/
import Derived.Test.YtbloalfgbpgepaaDoorCx0
namespace Go.Proofs.YtbloalfgbpgepaaDoor.C
open Go.RowKit Go.Proofs.YtbloalfgbpgepaaDoorW.PrintWords Go.Proofs.YtbloalfgbpgepaaDoorW.PrintLast Go.Proofs.YtbloalfgbpgepaaDoorW.PrintMore
attribute [local go_sem] max2_int min2_int max_two min_two max_three min_three max_four min_four   -- for this text's walks alone
set_option linter.unusedVariables false
set_option linter.unusedSimpArgs false

/-! ### voice_isSample: function 19 -/
def voice_isSample.f (a0 : Int) : Option (Bool) := if a0 ≥ (-32768) then (some (decide (a0 ≤ 32767))) else (some false)
set_option maxHeartbeats 8000000 in
set_option maxRecDepth 100000 in
theorem voice_isSample.calls (a0 : Int) (r : Bool) (w : World) (h : voice_isSample.f a0 = some r) :
    Calls Tryd.prog 19 #[.int .i64 a0] w fun e w' => e = .returned (.bool r) ∧ Drawn0 w w' := by
  have H : (if a0 ≥ (-32768) then (some (decide (a0 ≤ 32767))) else (some false)) = some r := h
  clear h
  by_cases c2 : a0 ≥ (-32768)
  · rw [if_pos c2] at H
    have c2b0 : decide ((-32768) ≤ a0) = true := decide_eq_true c2
    clear c2
    obtain rfl := Option.some.inj H
    go_enter Tryd.func19, Tryd.ntmps19
    go_wp2
    go_ret
    exact ⟨by first | rfl | (simp; done) | (simp [*]; done), by repeat (first | exact Drawn0.refl _ | apply Drawn0.step)⟩
  · rw [if_neg c2] at H
    have c2b0 : decide ((-32768) ≤ a0) = false := decide_eq_false c2
    clear c2
    obtain rfl := Option.some.inj H
    go_enter Tryd.func19, Tryd.ntmps19
    go_wp2
    go_ret
    exact ⟨by first | rfl | (simp; done) | (simp [*]; done), by repeat (first | exact Drawn0.refl _ | apply Drawn0.step)⟩

-- NOT PRINTED: function 31 (slices_IndexFunc_int_int)

-- NOT PRINTED: function 25 (slices_ContainsFunc_int_int)

/-! ### voice_areSamples: function 18 -/
-- EXT rounds=0 making=0
-- NEEDS wireglass/voice.isSample
def vIn (x : Int) : Bool := decide (-32768 ≤ x ∧ x ≤ 32767)
def vIdx : List Int → Int → Int
  | [], _ => -1
  | x :: r, i => if vIn x = true then vIdx r (i + 1) else i
theorem vIdx_all : ∀ (l : List Int) (i : Int), 0 ≤ i → decide (0 ≤ vIdx l i) = !(l.all vIn)
  | [], i, _ => rfl
  | x :: r, i, h => by
    simp only [vIdx, List.all_cons]
    by_cases c : vIn x = true
    · simp only [c, if_true, Bool.true_and]; exact vIdx_all r (i + 1) (by omega)
    · have : vIn x = false := by simpa using c
      simp [this, h]
theorem voice_isSample.vin (x : Int) : voice_isSample.f x = some (vIn x) := by
  unfold voice_isSample.f vIn
  by_cases c : x ≥ -32768
  · rw [if_pos c]; congr 1; have c' : -32768 ≤ x := c; simp [c']
  · rw [if_neg c]; congr 1; symm; rw [decide_eq_false_iff_not]; omega
theorem voice_bad.calls (x : Int) (w : World) : Calls Tryd.prog 26 #[.int .i64 x] w fun e w' => e = .returned (.bool (!(vIn x))) ∧ Drawn0 w w' := by
  go_enter Tryd.func26, Tryd.ntmps26
  go_wp2_with (go_at_call 19; (with_reducible refine (voice_isSample.calls x _ _ (voice_isSample.vin x)).mono ?_); rintro e w' ⟨rfl, ⟨nd, rfl⟩⟩)
  go_ret
  exact ⟨rfl, by repeat (first | exact Drawn0.refl _ | apply Drawn0.step)⟩
set_option maxHeartbeats 4000000 in
theorem voice_idx.calls (A0 : Option Addr) (c0 : Nat) (l0 : List Int) (w : World) (hr0 : Kd.C (Kd.int .i64) w A0 l0.length l0) (hc0 : l0.length ≤ c0) :
    Calls Tryd.prog 31 #[.slice A0 l0.length c0, .func (.func 26) #[] #[]] w fun e w' => e = .returned (.int .i64 (vIdx l0 0)) ∧ Drawn0 w w' := by
  have hm := Kd.C_max hr0
  have HR0 := Aside0.mk hr0
  clear hr0
  obtain ⟨R, hR⟩ : ∃ R, vIdx l0 0 = R := ⟨_, rfl⟩
  rw [hR]
  have H' := Aside0.mk hR
  clear hR
  go_enter Tryd.func31, Tryd.ntmps31
  go_wp2
  go_loopg [8] l0.length (fun kq v8 w' => ∃ i : Int, v8 = .int .i64 i ∧ 0 ≤ i ∧ i ≤ l0.length ∧ i + kq = l0.length ∧ Aside0 (vIdx (l0.drop i.toNat) i = R) ∧ Drawn0 w w')
  case atStart => exact ⟨0, rfl, by omega, by omega, by omega, H', Drawn0.refl _⟩
  case round =>
    clear H'
    obtain ⟨i, rfl, h0, h1, hk, HA, ⟨m1, rfl⟩⟩ := hrel
    by_cases c : i < (l0.length : Int)
    · obtain ⟨ad, e, hx⟩ := Kd.at_int HR0.out i h0 c
      cases e
      have hd : l0.drop i.toNat = rd l0 i :: l0.drop (i + 1).toNat := by
        rw [show (i + 1).toNat = i.toNat + 1 by omega, List.drop_eq_getElem_cons (by omega : i.toNat < l0.length)]
        congr 1
        unfold rd
        rw [List.getD_eq_getElem?_getD, List.getElem?_eq_getElem (by omega : i.toNat < l0.length)]; rfl
      have HA2 := HA.out
      clear HA
      rw [hd, vIdx] at HA2
      clear hd
      have hw : IntKind.i64.wrap (i + 1) = i + 1 := by rw [IntKind.wrap_i64]; omega
      cases hv : vIn (rd l0 i) with
      | true =>
        rw [if_pos hv] at HA2
        have H' := Aside0.mk HA2
        clear HA2
        obtain ⟨q, rfl⟩ : ∃ q, gk = q + 1 := ⟨gk - 1, by omega⟩
        have HV := Aside0.mk hv
        clear hv hw
        go_wp2_with (go_at_call 26; (with_reducible refine (voice_bad.calls (rd l0 i) _).mono ?_); rintro e w' ⟨rfl, ⟨nd, rfl⟩⟩; have hv2 := HV.out; rw [hv2]; clear hv2)
        go_roundg q
        case measure => omega
        case rel => exact ⟨i + 1, rfl, by omega, by omega, by omega, H', by repeat (first | exact Drawn0.refl _ | apply Drawn0.step)⟩
      | false =>
        rw [if_neg (by simp [hv])] at HA2
        subst HA2
        have HV := Aside0.mk hv
        clear hv hw
        go_wp2_with (go_at_call 26; (with_reducible refine (voice_bad.calls (rd l0 i) _).mono ?_); rintro e w' ⟨rfl, ⟨nd, rfl⟩⟩; have hv2 := HV.out; rw [hv2]; clear hv2)
        go_ret
        exact ⟨rfl, by repeat (first | exact Drawn0.refl _ | apply Drawn0.step)⟩
    · have hd : l0.drop i.toNat = [] := List.drop_eq_nil_of_le (by omega)
      have HA2 := HA.out
      clear HA
      rw [hd, vIdx] at HA2
      subst HA2
      clear hd
      go_wp2
      go_ret
      exact ⟨rfl, by repeat (first | exact Drawn0.refl _ | apply Drawn0.step)⟩
theorem voice_contains.calls (A0 : Option Addr) (c0 : Nat) (l0 : List Int) (w : World) (hr0 : Kd.C (Kd.int .i64) w A0 l0.length l0) (hc0 : l0.length ≤ c0) :
    Calls Tryd.prog 25 #[.slice A0 l0.length c0, .func (.func 26) #[] #[]] w fun e w' => e = .returned (.bool (!(l0.all vIn))) ∧ Drawn0 w w' := by
  have HE := Aside0.mk (vIdx_all l0 0 (by omega))
  have HR0 := Aside0.mk hr0
  have HC0 := Aside0.mk hc0
  clear hr0 hc0
  go_enter Tryd.func25, Tryd.ntmps25
  go_wp2_with (go_at_call 31; (with_reducible refine (voice_idx.calls A0 c0 l0 _ HR0.out HC0.out).mono ?_); rintro e w' ⟨rfl, ⟨nd, rfl⟩⟩)
  go_ret
  exact ⟨congrArg (fun b => Ending.returned (.bool b)) HE.out, by repeat (first | exact Drawn0.refl _ | apply Drawn0.step)⟩
def voice_areSamples.f (l0 : List Int) : Option Bool := some (l0.all vIn)
theorem voice_areSamples.calls (A0 : Option Addr) (c0 : Nat) (l0 : List Int) (r : Bool) (w : World) (hr0 : Kd.C (Kd.int .i64) w A0 l0.length l0) (hc0 : l0.length ≤ c0) (h : voice_areSamples.f l0 = some r) :
    Calls Tryd.prog 18 #[.slice A0 l0.length c0] w fun e w' => e = .returned (.bool r) ∧ Drawn0 w w' := by
  have HE := Aside0.mk (Option.some.inj h)
  clear h
  have HR0 := Aside0.mk hr0
  have HC0 := Aside0.mk hc0
  clear hr0 hc0
  go_enter Tryd.func18, Tryd.ntmps18
  go_wp2_with (go_at_call 25; (with_reducible refine (voice_contains.calls A0 c0 l0 _ HR0.out HC0.out).mono ?_); rintro e w' ⟨rfl, ⟨nd, rfl⟩⟩)
  go_ret
  exact ⟨by rw [← HE.out]; simp, by repeat (first | exact Drawn0.refl _ | apply Drawn0.step)⟩
theorem voice_isSample.vin' {x : Int} {r : Bool} (h : vIn x = r) : voice_isSample.f x = some r := by rw [voice_isSample.vin, h]

-- NOT PRINTED: function 22 (voice_stepper)

/-! ### voice_Steps: function 9 -/
-- EXT rounds=0 making=1
def vNext (s : Int) : Int := if s = 0 then 7 else s + (s / 10 + 1)
def vIter : Nat → Int
  | 0 => 0
  | k + 1 => vNext (vIter k)
def vStepsL : Nat → List Int
  | 0 => []
  | k + 1 => vStepsL k ++ [vIter (k + 1)]
theorem vStepsL_length : ∀ k, (vStepsL k).length = k
  | 0 => rfl
  | k + 1 => by rw [vStepsL, List.length_append, vStepsL_length k]; rfl
theorem vIter_bd (k : Nat) (h : k < 90) : 0 ≤ vIter k ∧ vIter k ≤ 100000 := by
  have h2 : ∀ i : Fin 90, 0 ≤ vIter i.val ∧ vIter i.val ≤ 100000 := by decide +kernel
  exact h2 ⟨k, h⟩
theorem voice_next.calls (b : Nat) (s : Int) (w : World) (hb : w.heap[b]? = some (.cells #[.int .i64 s] 3 (0, 0))) (h0 : 0 ≤ s) (h1 : s ≤ 100000) :
    Calls Tryd.prog 29 #[.pointer (some ⟨b, 0, none⟩)] w fun e w' => e = .returned (.int .i64 (vNext s)) ∧ w'.heap[b]? = some (.cells #[.int .i64 (vNext s)] 3 (0, 0)) ∧ Below b w w' ∧ KeepBut w w' b none := by
  have HB := Aside0.mk hb
  have hc := cell_of_one hb
  have hf := free_of_one hb
  clear hb
  by_cases c : s = 0
  · subst c
    go_enter Tryd.func29, Tryd.ntmps29
    go_wp2
    go_ret
    exact ⟨rfl, one_setCell HB.out, (Below.refl b w).setCell (p := ⟨b, 0, none⟩) (Nat.le_refl _) _, (KeepBut.refl _ _ _).set_ _ _⟩
  · have hv : vNext s = s + (s / 10 + 1) := by unfold vNext; rw [if_neg c]
    have c1 : (s == 0) = false := by simpa using c
    have HV := Aside0.mk hv
    clear hv c
    go_enter Tryd.func29, Tryd.ntmps29
    go_wp2
    all_goals try go_region
    all_goals go_wp2
    all_goals go_ret
    all_goals rw [HV.out]
    all_goals exact ⟨rfl, one_setCell HB.out, (Below.refl b w).setCell (p := ⟨b, 0, none⟩) (Nat.le_refl _) _, (KeepBut.refl _ _ _).set_ _ _⟩
theorem voice_stepper.calls (w : World) : Calls Tryd.prog 22 #[] w fun e w' => e = .returned (.func (.func 29) #[] #[.pointer (some ⟨w.heap.size, 0, none⟩)]) ∧ w' = w.alloc (.cells #[.int .i64 0] 3) := by
  have hmf : ∀ (fn : Fn) (first cap : Array Value) (w : World), (Instr.makeFunc fn first cap).run Tryd.prog w = .ok (.func fn first cap) w := fun _ _ _ _ => rfl
  go_enter Tryd.func22, Tryd.ntmps22
  go_wp2
  go_ret
  exact ⟨rfl, rfl⟩
def voice_Steps.f : Option (List Int) := some (vStepsL 89)
set_option maxHeartbeats 4000000 in
theorem voice_Steps.calls (r : List Int) (w : World) (h : voice_Steps.f = some r) :
    Calls Tryd.prog 9 #[] w fun e w' => ∃ v0_ : Value, e = .returned (v0_) ∧ Kd.R (Kd.int .i64) 3 w' w.heap.size (fun _ => True) v0_ r ∧ Below w.heap.size w w' := by
  have HE := Aside0.mk (Option.some.inj h)
  clear h
  go_enter Tryd.func9, Tryd.ntmps9
  go_wp2_with (go_at_call 22; (with_reducible refine (voice_stepper.calls _).mono ?_); rintro e w' ⟨rfl, rfl⟩)
  go_loopg [2, 4] 89 (fun kq v2 v4 w' => ∃ i : Nat, v4 = .int .i64 i ∧ i + kq = 89 ∧ Aside0 (Kd.R (Kd.int .i64) 3 w' w.heap.size (fun k => k ≠ w.heap.size) v2 (vStepsL i)) ∧ Aside0 (w'.heap[w.heap.size]? = some (.cells #[.int .i64 (vIter i)] 3 (0, 0))) ∧ Aside0 (Below w.heap.size w w'))
  case atStart => exact ⟨0, rfl, by omega, ⟨Kd.R_nil _ _ _ _ _⟩, ⟨heap_alloc_new _ _⟩, ⟨(Below.refl _ _).alloc (Nat.le_refl _) _⟩⟩
  case round =>
    rename_i wr _ _ _
    obtain ⟨i, rfl, hk, HO, HC, HB⟩ := hrel
    by_cases c : i < 89
    · obtain ⟨q, rfl⟩ : ∃ q, gk = q + 1 := ⟨gk - 1, by omega⟩
      have hbd := vIter_bd i (by omega)
      have hbd2 := vIter_bd (i + 1) (by omega)
      go_wp2_with (first
        | (go_at_call 29; (with_reducible refine (voice_next.calls w.heap.size (vIter i) _ HC.out hbd.1 hbd.2).mono ?_); rintro e w1 ⟨rfl, hc1, hb1, hk1⟩; have HC1 := Aside0.mk hc1; have HO1 := Aside0.mk (Kd.R_keep HO.out hk1 (fun _ h => h)); have HB1 := Aside0.mk (HB.out.trans hb1); have HS1 := Aside0.mk (blk_lt hc1); clear hc1 hb1 hk1)
        | (at_builtin; refine Kd.R_append (Kd.int .i64) (w0 := w) w.heap.size rfl (.tmp 6) (.tmp 9) 35 3 (.int .i64 0) 8 rfl Tryd.underlying35 info3 rfl (by decide) (by omega) _ (vStepsL i) (vNext (vIter i)) [.int .i64 (vNext (vIter i))] (fun k => k ≠ w.heap.size) (fun _ => False) rfl rfl rfl (fun _ hk => hk.elim) ?aF HO1.out HB1.out ?aS ?aL ?_; (case aF => intro k hk; have := HS1.out; omega); (case aS => have := HS1.out; omega); (case aL => rw [vStepsL_length]; omega); intro v1 w2 ho hb hg hat; have HO2 := Aside0.mk ho; have HC2 := Aside0.mk ((hg.block _ HS1.out (Kd.R_away HO1.out (fun _ h => h))).trans HC1.out); have HB2 := Aside0.mk hb; clear ho hb hg hat))
      go_roundg q
      case measure => omega
      case rel => exact ⟨i + 1, by go_num, by omega, HO2, HC2, HB2⟩
    · obtain rfl : i = 89 := by omega
      go_wp2
      go_ret
      exact ⟨_, rfl, by rw [← HE.out]; exact Kd.R_mono HO.out (fun _ _ => trivial), HB.out⟩
theorem vStep_bd (k : Int) (h0 : 0 ≤ k) (h1 : k ≤ 88) : 0 ≤ rd (vStepsL 89) k ∧ rd (vStepsL 89) k ≤ 100000 := by
  have h2 : ∀ i : Fin 89, 0 ≤ rd (vStepsL 89) (i.val : Int) ∧ rd (vStepsL 89) (i.val : Int) ≤ 100000 := by decide +kernel
  obtain ⟨n, rfl⟩ := Int.eq_ofNat_of_zero_le h0
  exact h2 ⟨n, by omega⟩

/-- A state of type 55 at block g of W; what its slices lead to came in by w0. -/
def IsS55 (w0 W : World) (g : Nat) (f0 : Int) (f1 : Int) (f2 : List Int) : Prop := ∃ A2 c2, W.heap[g]? = some (.cells #[.int .i64 f0, .int .i64 f1, .slice A2 f2.length c2] 55 (0, 0)) ∧ w0.heap.size ≤ g ∧ Kd.C (Kd.int .i64) w0 A2 f2.length f2
theorem IsS55.grown {w0 W : World} {g : Nat} {f0 : Int} {f1 : Int} {f2 : List Int} {W1 : World} {row : Option Nat} (h : IsS55 w0 W g f0 f1 f2) (hw : W.grownBy W1 row) (hne : some g ≠ row) : IsS55 w0 W1 g f0 f1 f2 := by
  obtain ⟨A2, c2, hb, hg, hr2⟩ := h
  exact ⟨A2, c2, blk_grown hb hw hne, hg, hr2⟩
theorem IsS55.own_neN {w0 W : World} {g : Nat} {f0 : Int} {f1 : Int} {f2 : List Int} {α : Type} {d : Kd α} {e : Nat} {base : Nat} {ok : Nat → Prop} {v : Value} {xs : List α} (h : IsS55 w0 W g f0 f1 f2) (ho : Kd.N d e W base ok v xs) (ht : e ≠ 55) : some g ≠ v.ownBlock := by
  obtain ⟨A2, c2, hb, hg, hr2⟩ := h
  exact Kd.N_ne ho hb ht
theorem IsS55.fresh {w0 W : World} {g : Nat} {f0 : Int} {f1 : Int} {f2 : List Int} (h : IsS55 w0 W g f0 f1 f2) : ∀ k, W.heap.size ≤ k → k ≠ g := by
  obtain ⟨A2, c2, hb, hg, hr2⟩ := h
  exact Kd.freshB hb
theorem IsS55.kept {w0 W : World} {g : Nat} {f0 : Int} {f1 : Int} {f2 : List Int} {W1 : World} {S : Nat → Prop} (h : IsS55 w0 W g f0 f1 f2) (hk : Kept W W1 S) (hne : ¬ S g) : IsS55 w0 W1 g f0 f1 f2 := by
  obtain ⟨A2, c2, hb, hg, hr2⟩ := h
  exact ⟨A2, c2, blk_kept hb hk hne, hg, hr2⟩
theorem IsS55.below {w0 W : World} {g : Nat} {f0 : Int} {f1 : Int} {f2 : List Int} {W1 : World} (h : IsS55 w0 W g f0 f1 f2) (hw : Below W.heap.size W W1) : IsS55 w0 W1 g f0 f1 f2 := h.grown (grown_of_below hw none) (by simp)
theorem IsS55.alloc {w0 W : World} {g : Nat} {f0 : Int} {f1 : Int} {f2 : List Int} (h : IsS55 w0 W g f0 f1 f2) (o : Obj) : IsS55 w0 (W.alloc o) g f0 f1 f2 := h.below (below_alloc (Below.refl _ _) o)
theorem IsS55.drewN {w0 W : World} {g : Nat} {f0 : Int} {f1 : Int} {f2 : List Int} (h : IsS55 w0 W g f0 f1 f2) (m : Nat) : IsS55 w0 (W.drewN m) g f0 f1 f2 := h
theorem IsS55.drew {w0 W : World} {g : Nat} {f0 : Int} {f1 : Int} {f2 : List Int} (h : IsS55 w0 W g f0 f1 f2) : IsS55 w0 W.drew g f0 f1 f2 := h
theorem IsS55.at_ {w0 W : World} {g : Nat} {f0 : Int} {f1 : Int} {f2 : List Int} {w' : World} {m : Nat} (hq : W.drewN m = w') (h : IsS55 w0 W g f0 f1 f2) : IsS55 w0 w' g f0 f1 f2 := by subst hq; exact IsS55.drewN h m
theorem IsS55.apart {w0 W : World} {g : Nat} {f0 : Int} {f1 : Int} {f2 : List Int} {α : Type} {d : Kd α} {e : Nat} {base : Nat} {ok : Nat → Prop} {v : Value} {xs : List α} (h : IsS55 w0 W g f0 f1 f2) (ho : d.R e W base ok v xs) (ht : ∀ q, q ∈ e :: d.E → q ≠ 55) : d.R e W base (fun k => ok k ∧ k ≠ g) v xs := by
  obtain ⟨A2, c2, hb, hg, hr2⟩ := h
  exact Kd.R_types ho hb ht
theorem IsS55.own_ne {w0 W : World} {g : Nat} {f0 : Int} {f1 : Int} {f2 : List Int} {α : Type} {d : Kd α} {e : Nat} {base : Nat} {ok : Nat → Prop} {v : Value} {xs : List α} (h : IsS55 w0 W g f0 f1 f2) (ho : d.R e W base ok v xs) (ht : e ≠ 55) : some g ≠ v.ownBlock := by
  obtain ⟨A2, c2, hb, hg, hr2⟩ := h
  exact Kd.R_ne ho hb ht
theorem IsS55.apartQ {w0 W : World} {g : Nat} {f0 : Int} {f1 : Int} {f2 : List Int} {α : Type} {d : Kd α} {e : Nat} {base : Nat} {ok : Nat → Prop} {v : Value} {xs : List α} (h : IsS55 w0 W g f0 f1 f2) (ho : d.Q e W base ok v xs) (ht : ∀ q, q ∈ e :: d.E → q ≠ 55) : d.Q e W base (fun k => ok k ∧ k ≠ g) v xs := by
  obtain ⟨A2, c2, hb, hg, hr2⟩ := h
  exact Kd.Q_types ho hb ht
theorem IsS55.own_neQ {w0 W : World} {g : Nat} {f0 : Int} {f1 : Int} {f2 : List Int} {α : Type} {d : Kd α} {e : Nat} {base : Nat} {ok : Nat → Prop} {v : Value} {xs : List α} (h : IsS55 w0 W g f0 f1 f2) (ho : d.Q e W base ok v xs) (ht : e ≠ 55) : some g ≠ v.ownBlock := by
  obtain ⟨A2, c2, hb, hg, hr2⟩ := h
  exact Kd.Q_ne ho hb ht
theorem IsS55.apartS {w0 W : World} {g : Nat} {f0 : Int} {f1 : Int} {f2 : List Int} {α : Type} {d : Kd α} {e : Nat} {base : Nat} {ok : Nat → Prop} {v : Value} {xs : List α} (h : IsS55 w0 W g f0 f1 f2) (ho : d.S e W base ok v xs) (ht : ∀ q, q ∈ e :: d.E → q ≠ 55) : d.S e W base (fun k => ok k ∧ k ≠ g) v xs := by
  obtain ⟨A2, c2, hb, hg, hr2⟩ := h
  exact Kd.S_types ho hb ht
theorem IsS55.own_neS {w0 W : World} {g : Nat} {f0 : Int} {f1 : Int} {f2 : List Int} {α : Type} {d : Kd α} {e : Nat} {base : Nat} {ok : Nat → Prop} {v : Value} {xs : List α} (h : IsS55 w0 W g f0 f1 f2) (ho : d.S e W base ok v xs) (ht : e ≠ 55) : some g ≠ v.ownBlock := by
  obtain ⟨A2, c2, hb, hg, hr2⟩ := h
  exact Kd.S_ne ho hb ht
theorem IsS55.lt {w0 W : World} {g : Nat} {f0 : Int} {f1 : Int} {f2 : List Int} (h : IsS55 w0 W g f0 f1 f2) : g < W.heap.size := by
  obtain ⟨A2, c2, hb, hg, hr2⟩ := h
  exact blk_lt hb
theorem IsS55.ge {w0 W : World} {g : Nat} {f0 : Int} {f1 : Int} {f2 : List Int} (h : IsS55 w0 W g f0 f1 f2) : w0.heap.size ≤ g := by
  obtain ⟨A2, c2, hb, hg, hr2⟩ := h
  exact hg
theorem IsS55.ne_blk {w0 W : World} {g : Nat} {f0 : Int} {f1 : Int} {f2 : List Int} {a : Nat} {cs : Array Value} {t : TypeId} {fr : Nat × Nat} (h : IsS55 w0 W g f0 f1 f2) (hb2 : W.heap[a]? = some (.cells cs t fr)) (ht : t ≠ 55) : g ≠ a := by
  obtain ⟨A2, c2, hb, hg, hr2⟩ := h
  rintro rfl
  rw [hb] at hb2
  injection hb2 with hb2
  injection hb2 with _ ht2
  exact ht ht2.symm
theorem IsS55.far {w0 W : World} {g : Nat} {f0 : Int} {f1 : Int} {f2 : List Int} {p : Addr} (h : IsS55 w0 W g f0 f1 f2) (hne : g ≠ p.block) (u : Value) : IsS55 w0 (W.setCell p u) g f0 f1 f2 := by
  obtain ⟨A2, c2, hb, hg, hr2⟩ := h
  exact ⟨A2, c2, blk_far hb hne u, hg, hr2⟩
theorem cellS55_0 {W : World} {g : Nat} {A2 : Option Addr} {c2 : Nat} {f0 : Int} {f1 : Int} {f2 : List Int} (h : W.heap[g]? = some (.cells #[.int .i64 f0, .int .i64 f1, .slice A2 f2.length c2] 55 (0, 0))) : W.cell? ⟨g, 0, none⟩ = some (.int .i64 f0) := (blk_cell h 0).trans rfl
theorem IsS55.set_0 {w0 W : World} {g : Nat} {f0 : Int} {f1 : Int} {f2 : List Int} (h : IsS55 w0 W g f0 f1 f2) (x : Int) : IsS55 w0 (W.setCell ⟨g, 0, none⟩ (.int .i64 x)) g x f1 f2 := by
  obtain ⟨A2, c2, hb, hg, hr2⟩ := h
  exact ⟨A2, c2, by simpa using blk_set hb 0 (.int .i64 x), hg, hr2⟩
theorem cellS55_1 {W : World} {g : Nat} {A2 : Option Addr} {c2 : Nat} {f0 : Int} {f1 : Int} {f2 : List Int} (h : W.heap[g]? = some (.cells #[.int .i64 f0, .int .i64 f1, .slice A2 f2.length c2] 55 (0, 0))) : W.cell? ⟨g, 1, none⟩ = some (.int .i64 f1) := (blk_cell h 1).trans rfl
theorem IsS55.set_1 {w0 W : World} {g : Nat} {f0 : Int} {f1 : Int} {f2 : List Int} (h : IsS55 w0 W g f0 f1 f2) (x : Int) : IsS55 w0 (W.setCell ⟨g, 1, none⟩ (.int .i64 x)) g f0 x f2 := by
  obtain ⟨A2, c2, hb, hg, hr2⟩ := h
  exact ⟨A2, c2, by simpa using blk_set hb 1 (.int .i64 x), hg, hr2⟩
theorem cellS55_2 {W : World} {g : Nat} {A2 : Option Addr} {c2 : Nat} {f0 : Int} {f1 : Int} {f2 : List Int} (h : W.heap[g]? = some (.cells #[.int .i64 f0, .int .i64 f1, .slice A2 f2.length c2] 55 (0, 0))) : W.cell? ⟨g, 2, none⟩ = some (.slice A2 f2.length c2) := (blk_cell h 2).trans rfl
theorem IsS55.new (w0 W : World) (A2 : Option Addr) (c2 : Nat) (f0 : Int) (f1 : Int) (f2 : List Int) (hB : Below w0.heap.size w0 W) (hr2 : Kd.C (Kd.int .i64) w0 A2 f2.length f2) : IsS55 w0 (W.alloc (.cells #[.int .i64 f0, .int .i64 f1, .slice A2 f2.length c2] 55)) W.heap.size f0 f1 f2 := ⟨A2, c2, by simpa using heap_alloc_new W _, hB.size, hr2⟩

/-! ### voice_NewCoder: function 20 -/
-- EXT HIDDEN
-- STATE voice.Coder
/-- A coder made: its steps lie in the world w1, and the coder behind it. -/
def voice_NewCoder.Fresh (w : World) (e : Ending) (w' : World) : Prop := ∃ (g : Nat) (w1 : World), e = .returned (.pointer (some ⟨g, 0, none⟩)) ∧ IsS55 w1 w' g 0 0 (vStepsL 89) ∧ Below w1.heap.size w1 w' ∧ Below w.heap.size w w1
theorem voice_NewCoder.calls (w : World) : Calls Tryd.prog 20 #[] w fun e w' => voice_NewCoder.Fresh w e w' := by
  go_enter Tryd.func20, Tryd.ntmps20
  go_wp2_with (go_at_call 9; (with_reducible refine (voice_Steps.calls (vStepsL 89) _ rfl).mono ?_); rintro e w1 ⟨v, rfl, ho, hb⟩; obtain ⟨A, c, rfl, hc, hr⟩ := Kd.R_reads ho; have HR := Aside0.mk hr; have HB := Aside0.mk hb; clear ho hc hr hb)
  go_ret
  exact ⟨_, w1, rfl, IsS55.new w1 w1 A c 0 0 (vStepsL 89) (Below.refl _ _) HR.out, (Below.refl _ _).alloc (Nat.le_refl _) _, HB.out⟩

/-! ### wide_Put: function 27 -/
def wide_Put.l0 : Nat → List Int → Int → Int → Bool → Int → Int → Option (List Int)
  | 0, _, _, _, _, _, _ => none
  | k + 1, x0, x1, x2, x3, x11, x12 => if x12 < x11 then (if x3 = true then (if 0 ≤ (wrap64 (8 * x12)) then (if x0.length < 140737488355328 then (wide_Put.l0 k (x0 ++ [(shr .u64 x1 (wrap64 (8 * x12))) % 256]) x1 x2 x3 x11 (wrap64 (x12 + 1))) else (none)) else (none)) else (if 0 ≤ (wrap64 (8 * (wrap64 ((wrap64 (x2 - 1)) - x12)))) then (if x0.length < 140737488355328 then (wide_Put.l0 k (x0 ++ [(shr .u64 x1 (wrap64 (8 * (wrap64 ((wrap64 (x2 - 1)) - x12))))) % 256]) x1 x2 x3 x11 (wrap64 (x12 + 1))) else (none)) else (none))) else (some x0)
def wide_Put.f (k : Nat) (l0 : List Int) (a1 : Int) (a2 : Int) (a3 : Bool) : Option (List Int) := wide_Put.l0 k l0 a1 a2 a3 a2 0
theorem wide_Put.mono_l : ∀ k, (∀ y0 y1 y2 y3 y4 y5, LeO (wide_Put.l0 k y0 y1 y2 y3 y4 y5) (wide_Put.l0 (k + 1) y0 y1 y2 y3 y4 y5))
  | 0 => fun _ _ _ _ _ _ r h => by simp [wide_Put.l0] at h
  | k + 1 => by
    have ih0 := wide_Put.mono_l k
    · intro y0 y1 y2 y3 y4 y5
      unfold wide_Put.l0
      repeat' first
      | (with_reducible exact ih0 _ _ _ _ _ _)
      | (with_reducible exact LeO.refl _)
      | (with_reducible exact LeO.none _)
      | (with_reducible refine LeO.ite ?_ ?_)
      | (with_reducible refine LeO.bind ?_ (fun _ => ?_))
      | exact ih0 _ _ _ _ _ _
      | exact LeO.none _
      | refine LeO.ite ?_ ?_
      | refine LeO.bind ?_ (fun _ => ?_)
theorem wide_Put.mono : ∀ a0 a1 a2 a3 k, LeO (wide_Put.f k a0 a1 a2 a3) (wide_Put.f (k + 1) a0 a1 a2 a3) := by
  intro a0 a1 a2 a3 k
  have ih0 := wide_Put.mono_l k
  unfold wide_Put.f
  repeat' first
      | (with_reducible exact ih0 _ _ _ _ _ _)
      | (with_reducible exact LeO.refl _)
      | (with_reducible exact LeO.none _)
      | (with_reducible refine LeO.ite ?_ ?_)
      | (with_reducible refine LeO.bind ?_ (fun _ => ?_))
      | exact ih0 _ _ _ _ _ _
      | exact LeO.none _
      | refine LeO.ite ?_ ?_
      | refine LeO.bind ?_ (fun _ => ?_)
set_option maxHeartbeats 8000000 in
set_option maxRecDepth 100000 in
theorem wide_Put.calls (k : Nat) (P0_ : Nat → Prop) (u9000_ : Value) (l0 : List Int) (a1 : Int) (a2 : Int) (a3 : Bool) (r : List Int) (w0 w : World) (hB : Below w0.heap.size w0 w) (ho0 : Kd.R (Kd.int .u8) 5 w w0.heap.size P0_ u9000_ l0) (h : wide_Put.f k l0 a1 a2 a3 = some r) :
    Calls Tryd.prog 27 #[u9000_, .int .u64 a1, .int .i64 a2, .bool a3] w fun e w' => ∃ v0_ : Value, e = .returned (v0_) ∧ Kd.R (Kd.int .u8) 5 w' w0.heap.size (fun k_ => (P0_ k_ ∨ w.heap.size ≤ k_)) v0_ r ∧ Below w0.heap.size w0 w' ∧ Kept w w' (fun k_ => P0_ k_) := by
  have HO0 := Aside0.mk (show Kd.R (Kd.int .u8) 5 w w0.heap.size (fun k_ => (P0_ k_ ∨ w.heap.size ≤ k_)) u9000_ l0 from Kd.R_mono ho0 (fun k_ hk => (.inl hk)))
  have HK := Aside0.mk (Kept.refl w (fun k_ => P0_ k_))
  have HW0 := Aside0.mk hB.size
  have HB := Aside0.mk hB
  clear hB
  have H : (wide_Put.l0 k l0 a1 a2 a3 a2 0) = some r := h
  clear h
  have H' := Aside0.mk H
  clear H
  go_enter Tryd.func27, Tryd.ntmps27
  go_wp2
  go_loopg [0, 12] k (fun kq v0 v12 w' => ∃ (x0_1 : List Int) (x12_1 : Int), v12 = .int .i64 x12_1 ∧ Aside0 (wide_Put.l0 kq x0_1 a1 a2 a3 a2 x12_1 = some r) ∧ Aside0 (kq ≤ k) ∧ Aside0 (Kd.R (Kd.int .u8) 5 w' w0.heap.size (fun k_ => (P0_ k_ ∨ w.heap.size ≤ k_)) v0 x0_1) ∧ Aside0 (Kept w w' (fun k_ => P0_ k_)) ∧ Aside0 (Below w0.heap.size w0 w'))
  case atStart => exact ⟨(l0), (0), (by first | rfl | (simp; done) | (simp [*]; done)), H', ⟨Nat.le_refl _⟩, ⟨by (with_reducible repeat (first | apply Kd.R_alloc | apply Kd.R_drewN | apply Kd.R_drew)); exact HO0.out⟩, ⟨by repeat (first | (with_reducible first | exact HK.out | apply Kept.alloc | apply Kept.drewN | apply Kept.drew) | exact HK.out)⟩, ⟨by repeat (first | (with_reducible first | exact HB.out | apply below_alloc | apply pw_below_drewN | apply below_drew1) | exact HB.out)⟩⟩
  case round =>
    clear H'
    try clear c2
    try clear p2
    obtain ⟨x0_1, x12_1, rfl, HA, HK1, HO_0, HK, HB⟩ := hrel
    cases gk with
    | zero => exact absurd HA.out (by simp [wide_Put.l0])
    | succ k1 =>
      have H := HA.out
      clear HA
      simp only [wide_Put.l0] at H
      by_cases c5 : x12_1 < a2
      · rw [if_pos c5] at H
        have c5b0 : decide (x12_1 < a2) = true := decide_eq_true c5
        clear c5
        by_cases c6 : a3 = true
        · subst c6
          have H1 : (if 0 ≤ (wrap64 (8 * x12_1)) then (if x0_1.length < 140737488355328 then (wide_Put.l0 k1 (x0_1 ++ [(shr .u64 a1 (wrap64 (8 * x12_1))) % 256]) a1 a2 true a2 (wrap64 (x12_1 + 1))) else (none)) else (none)) = some r := by rw [if_pos rfl] at H; exact H
          clear H
          have H := H1
          clear H1
          obtain ⟨ji7, hji7⟩ : ∃ j_ : Int, (wrap64 (8 * x12_1)) = j_ := ⟨_, rfl⟩
          replace H : (if 0 ≤ (ji7) then (if x0_1.length < 140737488355328 then (wide_Put.l0 k1 (x0_1 ++ [(shr .u64 a1 (ji7)) % 256]) a1 a2 true a2 (wrap64 (x12_1 + 1))) else (none)) else (none)) = some r := by first | (rw [hji7] at H; exact H) | (simp only [hji7] at H ⊢; exact H)
          have hji7w : (IntKind.i64.wrap (8 * x12_1)) = ji7 := (i64_w _).trans hji7
          by_cases c8 : 0 ≤ (ji7)
          · rw [if_pos c8] at H
            have c8b0 := eq_true c8
            have c8b1 : decide (0 ≤ (ji7)) = true := decide_eq_true c8
            clear c8
            obtain ⟨ji9, hji9⟩ : ∃ j_ : Int, (shr .u64 a1 (ji7)) = j_ := ⟨_, rfl⟩
            replace H : (if x0_1.length < 140737488355328 then (wide_Put.l0 k1 (x0_1 ++ [(ji9) % 256]) a1 a2 true a2 (wrap64 (x12_1 + 1))) else (none)) = some r := by first | (rw [hji9] at H; exact H) | (simp only [hji9] at H ⊢; exact H)
            have hji9_ : (a1 / 2 ^ min (ji7).toNat 64) = ji9 := hji9
            have hji9z : (ji7) ≤ 64 → (a1 / 2 ^ (ji7).toNat) = ji9 := shr_small hji9
            by_cases c10 : x0_1.length < 140737488355328
            · rw [if_pos c10] at H
              have LMc10 := Aside0.mk c10
              clear c10
              obtain ⟨y101, hy101⟩ : ∃ y_ : List Int, y_ = (x0_1 ++ [(ji9) % 256]) := ⟨_, rfl⟩
              replace H : (wide_Put.l0 k1 y101 a1 a2 true a2 (wrap64 (x12_1 + 1))) = some r := by first | (rw [hy101]; with_reducible exact H) | (have H2_ := (Option.bind_some _ _).symm.trans H; rw [hy101]; with_reducible exact H2_) | (have H2_ := (Option.bind_some _ _).symm.trans H; with_reducible exact H2_) | with_reducible exact H | (rw [hy101]; exact H) | exact H
              have Ny101 := Aside0.mk hy101
              clear hy101
              have H' := Aside0.mk H
              clear H
              go_wp2_with (first | ((with_reducible refine gate_builtin (b := .append) (xs := #[.tmp 21, .tmp 27]) rfl ?_); at_builtin; refine Kd.R_append (Kd.int .u8) (w0 := w0) w0.heap.size rfl (.tmp 21) (.tmp 27) 23 5 (.int .u8 0) 1 rfl Tryd.underlying23 info5 rfl (by decide) (by omega) u0 x0_1 ((ji9) % 256) [.int .u8 ((ji9) % 256)] (fun k_ => (P0_ k_ ∨ w.heap.size ≤ k_)) (fun _ => False) rfl rfl ?aP (fun _ hk => hk.elim) ?aF ?aO ?aB ?aS ?aL ?_; (case aP => exact rfl); (case aB => exact (by repeat (first | (with_reducible first | exact HB.out | apply below_alloc | apply pw_below_drewN | apply below_drew1) | exact HB.out))); (case aF => exact (fun k_ hk => (.inr (Nat.le_trans (by first | exact HK.out.1 | exact (show Kept w _ (fun k_ => P0_ k_) from by repeat (first | (with_reducible first | exact HK.out | apply Kept.alloc | apply Kept.drewN | apply Kept.drew) | exact HK.out)).1) hk)))); (case aO => exact (by (with_reducible repeat (first | apply Kd.R_alloc | apply Kd.R_drewN | apply Kd.R_drew)); exact HO_0.out)); (case aS => exact (below_size (by repeat (first | (with_reducible first | exact HB.out | apply below_alloc | apply pw_below_drewN | apply below_drew1) | exact HB.out)))); (case aL => have := LMc10.out; omega); intro v102 w11 ho hb hg hat; rw [← Ny101.out] at ho; have n0_ := Aside0.mk (hb); have n1_ := Aside0.mk (Kept.of_grown (S := (fun k_ => P0_ k_)) hg (by repeat (first | (with_reducible first | exact HK.out | apply Kept.alloc | apply Kept.drewN | apply Kept.drew) | exact HK.out)) (fun k_ e_ => (HO_0.out.1 k_ e_))); have n2_ := Aside0.mk (ho); clear HB; clear HK; clear HO_0; have HB := n0_; have HK := n1_; have HO103 := n2_; clear n0_ n1_ n2_; clear ho hb hg hat))
              go_roundg k1
              case measure => have := HK1.out; omega
              case rel => exact ⟨(y101), (wrap64 (x12_1 + 1)), (by first | rfl | (simp; done) | (simp [*]; done)), H', ⟨by have := HK1.out; omega⟩, ⟨by (with_reducible repeat (first | apply Kd.R_alloc | apply Kd.R_drewN | apply Kd.R_drew)); exact HO103.out⟩, ⟨by repeat (first | (with_reducible first | exact HK.out | apply Kept.alloc | apply Kept.drewN | apply Kept.drew) | exact HK.out)⟩, ⟨by repeat (first | (with_reducible first | exact HB.out | apply below_alloc | apply pw_below_drewN | apply below_drew1) | exact HB.out)⟩⟩
            · rw [if_neg c10] at H
              exact absurd H (by simp)
          · rw [if_neg c8] at H
            exact absurd H (by simp)
        · replace c6 := Bool.eq_false_iff.mpr c6
          subst c6
          have H1 : (if 0 ≤ (wrap64 (8 * (wrap64 ((wrap64 (a2 - 1)) - x12_1)))) then (if x0_1.length < 140737488355328 then (wide_Put.l0 k1 (x0_1 ++ [(shr .u64 a1 (wrap64 (8 * (wrap64 ((wrap64 (a2 - 1)) - x12_1))))) % 256]) a1 a2 false a2 (wrap64 (x12_1 + 1))) else (none)) else (none)) = some r := by rw [if_neg (show ¬ (false = true) by decide)] at H; exact H
          clear H
          have H := H1
          clear H1
          obtain ⟨ji12, hji12⟩ : ∃ j_ : Int, (wrap64 (8 * (wrap64 ((wrap64 (a2 - 1)) - x12_1)))) = j_ := ⟨_, rfl⟩
          replace H : (if 0 ≤ (ji12) then (if x0_1.length < 140737488355328 then (wide_Put.l0 k1 (x0_1 ++ [(shr .u64 a1 (ji12)) % 256]) a1 a2 false a2 (wrap64 (x12_1 + 1))) else (none)) else (none)) = some r := by first | (rw [hji12] at H; exact H) | (simp only [hji12] at H ⊢; exact H)
          have hji12w : (IntKind.i64.wrap (8 * (wrap64 ((wrap64 (a2 - 1)) - x12_1)))) = ji12 := (i64_w _).trans hji12
          by_cases c13 : 0 ≤ (ji12)
          · rw [if_pos c13] at H
            have c13b0 := eq_true c13
            have c13b1 : decide (0 ≤ (ji12)) = true := decide_eq_true c13
            clear c13
            obtain ⟨ji14, hji14⟩ : ∃ j_ : Int, (shr .u64 a1 (ji12)) = j_ := ⟨_, rfl⟩
            replace H : (if x0_1.length < 140737488355328 then (wide_Put.l0 k1 (x0_1 ++ [(ji14) % 256]) a1 a2 false a2 (wrap64 (x12_1 + 1))) else (none)) = some r := by first | (rw [hji14] at H; exact H) | (simp only [hji14] at H ⊢; exact H)
            have hji14_ : (a1 / 2 ^ min (ji12).toNat 64) = ji14 := hji14
            have hji14z : (ji12) ≤ 64 → (a1 / 2 ^ (ji12).toNat) = ji14 := shr_small hji14
            by_cases c15 : x0_1.length < 140737488355328
            · rw [if_pos c15] at H
              have LMc15 := Aside0.mk c15
              clear c15
              obtain ⟨y104, hy104⟩ : ∃ y_ : List Int, y_ = (x0_1 ++ [(ji14) % 256]) := ⟨_, rfl⟩
              replace H : (wide_Put.l0 k1 y104 a1 a2 false a2 (wrap64 (x12_1 + 1))) = some r := by first | (rw [hy104]; with_reducible exact H) | (have H2_ := (Option.bind_some _ _).symm.trans H; rw [hy104]; with_reducible exact H2_) | (have H2_ := (Option.bind_some _ _).symm.trans H; with_reducible exact H2_) | with_reducible exact H | (rw [hy104]; exact H) | exact H
              have Ny104 := Aside0.mk hy104
              clear hy104
              have H' := Aside0.mk H
              clear H
              go_wp2_with (first | ((with_reducible refine gate_builtin (b := .append) (xs := #[.tmp 21, .tmp 27]) rfl ?_); at_builtin; refine Kd.R_append (Kd.int .u8) (w0 := w0) w0.heap.size rfl (.tmp 21) (.tmp 27) 23 5 (.int .u8 0) 1 rfl Tryd.underlying23 info5 rfl (by decide) (by omega) u0 x0_1 ((ji14) % 256) [.int .u8 ((ji14) % 256)] (fun k_ => (P0_ k_ ∨ w.heap.size ≤ k_)) (fun _ => False) rfl rfl ?aP (fun _ hk => hk.elim) ?aF ?aO ?aB ?aS ?aL ?_; (case aP => exact rfl); (case aB => exact (by repeat (first | (with_reducible first | exact HB.out | apply below_alloc | apply pw_below_drewN | apply below_drew1) | exact HB.out))); (case aF => exact (fun k_ hk => (.inr (Nat.le_trans (by first | exact HK.out.1 | exact (show Kept w _ (fun k_ => P0_ k_) from by repeat (first | (with_reducible first | exact HK.out | apply Kept.alloc | apply Kept.drewN | apply Kept.drew) | exact HK.out)).1) hk)))); (case aO => exact (by (with_reducible repeat (first | apply Kd.R_alloc | apply Kd.R_drewN | apply Kd.R_drew)); exact HO_0.out)); (case aS => exact (below_size (by repeat (first | (with_reducible first | exact HB.out | apply below_alloc | apply pw_below_drewN | apply below_drew1) | exact HB.out)))); (case aL => have := LMc15.out; omega); intro v105 w16 ho hb hg hat; rw [← Ny104.out] at ho; have n0_ := Aside0.mk (hb); have n1_ := Aside0.mk (Kept.of_grown (S := (fun k_ => P0_ k_)) hg (by repeat (first | (with_reducible first | exact HK.out | apply Kept.alloc | apply Kept.drewN | apply Kept.drew) | exact HK.out)) (fun k_ e_ => (HO_0.out.1 k_ e_))); have n2_ := Aside0.mk (ho); clear HB; clear HK; clear HO_0; have HB := n0_; have HK := n1_; have HO106 := n2_; clear n0_ n1_ n2_; clear ho hb hg hat))
              go_roundg k1
              case measure => have := HK1.out; omega
              case rel => exact ⟨(y104), (wrap64 (x12_1 + 1)), (by first | rfl | (simp; done) | (simp [*]; done)), H', ⟨by have := HK1.out; omega⟩, ⟨by (with_reducible repeat (first | apply Kd.R_alloc | apply Kd.R_drewN | apply Kd.R_drew)); exact HO106.out⟩, ⟨by repeat (first | (with_reducible first | exact HK.out | apply Kept.alloc | apply Kept.drewN | apply Kept.drew) | exact HK.out)⟩, ⟨by repeat (first | (with_reducible first | exact HB.out | apply below_alloc | apply pw_below_drewN | apply below_drew1) | exact HB.out)⟩⟩
            · rw [if_neg c15] at H
              exact absurd H (by simp)
          · rw [if_neg c13] at H
            exact absurd H (by simp)
      · rw [if_neg c5] at H
        have c5b0 : decide (x12_1 < a2) = false := decide_eq_false c5
        clear c5
        obtain rfl := Option.some.inj H
        go_wp2
        go_ret
        exact ⟨_, by first | rfl | (simp [errW_none, errW_some] <;> rfl) | (simp [*, errW_none, errW_some] <;> rfl), by (with_reducible repeat (first | apply Kd.R_alloc | apply Kd.R_drewN | apply Kd.R_drew)); exact HO_0.out, by repeat (first | (with_reducible first | exact HB.out | apply below_alloc | apply pw_below_drewN | apply below_drew1) | exact HB.out), by repeat (first | (with_reducible first | exact HK.out | apply Kept.alloc | apply Kept.drewN | apply Kept.drew) | exact HK.out)⟩

/-- Bytes of a number, low first. -/
def lowN : Nat → Int → List Int
  | 0, _ => []
  | n + 1, v => v % 256 :: lowN n (v / 256)
theorem lowN_length : ∀ (n : Nat) (v : Int), (lowN n v).length = n
  | 0, _ => rfl
  | n + 1, v => by rw [lowN, List.length_cons, lowN_length n]
theorem pow_low (i : Nat) : (2 : Int) ^ (8 * i) = 256 ^ i := by rw [Int.pow_mul]; rfl
theorem put_low_from (v : Int) (n : Nat) (hn : n ≤ 8) : ∀ (m i : Nat) (xs : List Int), i + m = n → xs.length ≤ 1000000 + i → wide_Put.l0 (m + 1) xs v (n : Int) true (n : Int) (i : Int) = some (xs ++ lowN m (v / 256 ^ i))
  | 0, i, xs, h, hl => by
    rw [wide_Put.l0, if_neg (by omega), lowN, List.append_nil]
  | m + 1, i, xs, h, hl => by
    have e : wrap64 (8 * (i : Int)) = ((8 * i : Nat) : Int) := by rw [Hand.w64 (by omega) (by omega)]; omega
    rw [wide_Put.l0, if_pos (by omega), if_pos rfl, e, if_pos (by omega), if_pos (by omega), Hand.shr_eq (by have : IntKind.u64.bits = 64 := rfl; omega), pow_low,
      show wrap64 ((i : Int) + 1) = ((i + 1 : Nat) : Int) by rw [Hand.w64 (by omega) (by omega)]; rfl, put_low_from v n hn m (i + 1) _ (by omega) (by rw [List.length_append, List.length_singleton]; omega), lowN, List.append_assoc]
    rw [Int.pow_succ, Int.ediv_ediv_of_nonneg (Int.pow_nonneg (by decide)), List.singleton_append]
theorem put_low (xs : List Int) (v : Int) (n : Nat) (hn : n ≤ 8) (hl : xs.length ≤ 1000000) : wide_Put.f (n + 1) xs v (n : Int) true = some (xs ++ lowN n v) := by
  unfold wide_Put.f
  have := put_low_from v n hn n 0 xs (by omega) (by omega)
  rw [Int.pow_zero, Int.ediv_one] at this
  exact this
theorem putL4.calls {w0 W : World} {u : Value} {xs : List Int} (v : Int) (hl : xs.length ≤ 1000000) (ho : Kd.R (Kd.int .u8) 5 W w0.heap.size (fun _ => True) u xs) (hb : Below w0.heap.size w0 W) :
    Calls Tryd.prog 27 #[u, .int .u64 v, .int .i64 4, .bool true] W fun e w' => ∃ v0_ : Value, e = .returned v0_ ∧ Kd.R (Kd.int .u8) 5 w' w0.heap.size (fun _ => True) v0_ (xs ++ lowN 4 v) ∧ Below w0.heap.size w0 w' :=
  (wide_Put.calls 5 (fun _ => True) u xs v 4 true _ w0 W hb ho (put_low xs v 4 (by decide) hl)).mono fun e w' ⟨v0, he, ho, hb, _⟩ => ⟨v0, he, Kd.R_mono ho (fun _ _ => trivial), hb⟩
theorem putL8.calls {w0 W : World} {u : Value} {xs : List Int} (v : Int) (hl : xs.length ≤ 1000000) (ho : Kd.R (Kd.int .u8) 5 W w0.heap.size (fun _ => True) u xs) (hb : Below w0.heap.size w0 W) :
    Calls Tryd.prog 27 #[u, .int .u64 v, .int .i64 8, .bool true] W fun e w' => ∃ v0_ : Value, e = .returned v0_ ∧ Kd.R (Kd.int .u8) 5 w' w0.heap.size (fun _ => True) v0_ (xs ++ lowN 8 v) ∧ Below w0.heap.size w0 w' :=
  (wide_Put.calls 9 (fun _ => True) u xs v 8 true _ w0 W hb ho (put_low xs v 8 (by decide) hl)).mono fun e w' ⟨v0, he, ho, hb, _⟩ => ⟨v0, he, Kd.R_mono ho (fun _ _ => trivial), hb⟩

/-! ### voice_Coder_decode: function 32 -/
-- EXT rounds=0 making=0
-- STATE voice.Coder
def vTab (code : Int) : Int := if code % 8 < 4 then -1 else 2 * (code % 8) - 6
def vDelta (t code : Int) : Int := t / 8 + (if code / 4 % 2 = 1 then t else 0) + (if code / 2 % 2 = 1 then t / 2 else 0) + (if code % 2 = 1 then t / 4 else 0)
def vP (p t code : Int) : Int := min (max (p + (if code / 8 = 1 then - vDelta t code else vDelta t code)) (-32768)) 32767
def vK (k code : Int) : Int := min (max (k + vTab code) 0) 88
def vOk (p k : Int) (L : List Int) (code : Int) : Bool := decide (0 ≤ k ∧ k ≤ 88 ∧ L.length = 89 ∧ 0 ≤ code ∧ code < 16 ∧ -32768 ≤ p ∧ p ≤ 32767 ∧ 0 ≤ rd L k ∧ rd L k ≤ 100000)
def vSum (t code : Int) (i : Nat) : Int := t / 8 + (if 0 < i ∧ code / 4 % 2 = 1 then t else 0) + (if 1 < i ∧ code / 2 % 2 = 1 then t / 2 else 0) + (if 2 < i ∧ code % 2 = 1 then t / 4 else 0)
theorem vSum0 (t a : Int) : vSum t a 0 = t / 8 := by simp [vSum]
theorem vSum_bd {t a : Int} (h0 : 0 ≤ t) (h1 : t ≤ 100000) (i : Nat) : 0 ≤ vSum t a i ∧ vSum t a i ≤ 400000 := by
  unfold vSum
  by_cases c1 : 0 < i ∧ a / 4 % 2 = 1 <;> by_cases c2 : 1 < i ∧ a / 2 % 2 = 1 <;> by_cases c3 : 2 < i ∧ a % 2 = 1 <;> simp only [c1, c2, c3, if_false] <;> (try simp) <;> omega
theorem vSum1t {t a : Int} (h0 : 0 ≤ t) (h1 : t ≤ 100000) (h : a / 4 % 2 = 1) : wrap64 (vSum t a 0 + t) = vSum t a 1 := by
  have := vSum_bd (a := a) h0 h1 0
  rw [Hand.w64 (by omega) (by omega)]; simp [vSum, h]
theorem vSum1f {t a : Int} (h : ¬ a / 4 % 2 = 1) : vSum t a 0 = vSum t a 1 := by simp [vSum, h]
theorem vSum2t {t a : Int} (h0 : 0 ≤ t) (h1 : t ≤ 100000) (h : a / 2 % 2 = 1) : wrap64 (vSum t a 1 + t / 2) = vSum t a 2 := by
  have := vSum_bd (a := a) h0 h1 1
  rw [Hand.w64 (by omega) (by omega)]; simp [vSum, h]
theorem vSum2f {t a : Int} (h : ¬ a / 2 % 2 = 1) : vSum t a 1 = vSum t a 2 := by simp [vSum, h]
theorem vSum3t {t a : Int} (h0 : 0 ≤ t) (h1 : t ≤ 100000) (h : a % 2 = 1) : wrap64 (vSum t a 2 + t / 4) = vSum t a 3 := by
  have := vSum_bd (a := a) h0 h1 2
  rw [Hand.w64 (by omega) (by omega)]; simp [vSum, h]
theorem vSum3f {t a : Int} (h : ¬ a % 2 = 1) : vSum t a 2 = vSum t a 3 := by simp [vSum, h]
theorem vSum3 (t a : Int) : vSum t a 3 = vDelta t a := by simp [vSum, vDelta]
theorem vDelta_bd {t a : Int} (h0 : 0 ≤ t) (h1 : t ≤ 100000) : 0 ≤ vDelta t a ∧ vDelta t a ≤ 400000 := by rw [← vSum3]; exact vSum_bd h0 h1 3
theorem vTab_bd (a : Int) : -1 ≤ vTab a ∧ vTab a ≤ 8 := by unfold vTab; split <;> omega
theorem vBit4 (a : Int) (h0 : 0 ≤ a) (h1 : a < 16) : (Go.bits .and .i64 a 4 != 0) = true ↔ a / 4 % 2 = 1 := by
  have h : ∀ i : Fin 16, (Go.bits .and .i64 (i.val : Int) 4 != 0) = true ↔ (i.val : Int) / 4 % 2 = 1 := by decide +kernel
  obtain ⟨n, rfl⟩ := Int.eq_ofNat_of_zero_le h0
  exact h ⟨n, by omega⟩
theorem vBit2 (a : Int) (h0 : 0 ≤ a) (h1 : a < 16) : (Go.bits .and .i64 a 2 != 0) = true ↔ a / 2 % 2 = 1 := by
  have h : ∀ i : Fin 16, (Go.bits .and .i64 (i.val : Int) 2 != 0) = true ↔ (i.val : Int) / 2 % 2 = 1 := by decide +kernel
  obtain ⟨n, rfl⟩ := Int.eq_ofNat_of_zero_le h0
  exact h ⟨n, by omega⟩
theorem vBit1 (a : Int) (h0 : 0 ≤ a) (h1 : a < 16) : (Go.bits .and .i64 a 1 != 0) = true ↔ a % 2 = 1 := by
  have h : ∀ i : Fin 16, (Go.bits .and .i64 (i.val : Int) 1 != 0) = true ↔ (i.val : Int) % 2 = 1 := by decide +kernel
  obtain ⟨n, rfl⟩ := Int.eq_ofNat_of_zero_le h0
  exact h ⟨n, by omega⟩
theorem vBit8 (a : Int) (h0 : 0 ≤ a) (h1 : a < 16) : (Go.bits .and .i64 a 8 != 0) = true ↔ a / 8 = 1 := by
  have h : ∀ i : Fin 16, (Go.bits .and .i64 (i.val : Int) 8 != 0) = true ↔ (i.val : Int) / 8 = 1 := by decide +kernel
  obtain ⟨n, rfl⟩ := Int.eq_ofNat_of_zero_le h0
  exact h ⟨n, by omega⟩
theorem vTab_bit (a : Int) : Go.bits .and .i64 a 7 = a % 8 := Hand.and_i64_mask a 3 (by decide)
theorem vTab_index (a : Int) (h0 : 0 ≤ a) (h1 : a < 16) (w : World) : (Instr.index 78 (.agg #[.int .i64 (-1), .int .i64 (-1), .int .i64 (-1), .int .i64 (-1), .int .i64 2, .int .i64 4, .int .i64 6, .int .i64 8]) (.int .i64 (Go.bits .and .i64 a 7))).run Tryd.prog w = .ok (.int .i64 (vTab a)) w := by
  rw [vTab_bit a]
  refine Hand.run_index_arr w Tryd.underlying78 (by kernel_rfl) (by kernel_rfl) (by kernel_rfl) (by omega) (by omega) ?_
  unfold vTab
  have h : a % 8 = 0 ∨ a % 8 = 1 ∨ a % 8 = 2 ∨ a % 8 = 3 ∨ a % 8 = 4 ∨ a % 8 = 5 ∨ a % 8 = 6 ∨ a % 8 = 7 := by omega
  rcases h with e | e | e | e | e | e | e | e <;> rw [e] <;> rfl
attribute [local go_sem high] vTab_index
def voice_Coder_decode.f (s0_0 : Int) (s0_1 : Int) (s0_2 : List Int) (a1 : Int) : Option (Int × Int × Int) := if vOk s0_0 s0_1 s0_2 a1 = true then some (vP s0_0 (rd s0_2 s0_1) a1, vP s0_0 (rd s0_2 s0_1) a1, vK s0_1 a1) else none
set_option maxHeartbeats 8000000 in
set_option maxRecDepth 100000 in
theorem voice_Coder_decode.calls (g : Nat) (s0_0 : Int) (s0_1 : Int) (s0_2 : List Int) (a1 : Int) (r1 : Int) (r2 : Int) (r3 : Int) (w0 w : World) (hI : IsS55 w0 w g s0_0 s0_1 s0_2) (hB : Below w0.heap.size w0 w) (h : voice_Coder_decode.f s0_0 s0_1 s0_2 a1 = some (r1, r2, r3)) :
    Calls Tryd.prog 32 #[.pointer (some ⟨g, 0, none⟩), .int .i64 a1] w fun e w' => e = .returned (.int .i64 r1) ∧ IsS55 w0 w' g r2 r3 s0_2 ∧ Below w0.heap.size w0 w' ∧ KeepBut w w' g none := by
  have HI0 := Aside0.mk hI
  have HK := Aside0.mk (KeepBut.refl w g none)
  have HL := Aside0.mk hB.size
  clear hI
  have HW0 := Aside0.mk hB.size
  have HB := Aside0.mk hB
  clear hB
  have H := Aside0.mk h
  clear h
  have hok : vOk s0_0 s0_1 s0_2 a1 = true := by
    have h := H.out
    unfold voice_Coder_decode.f at h
    by_cases c : vOk s0_0 s0_1 s0_2 a1 = true
    · exact c
    · rw [if_neg c] at h; cases h
  have H2 : some (vP s0_0 (rd s0_2 s0_1) a1, vP s0_0 (rd s0_2 s0_1) a1, vK s0_1 a1) = some (r1, r2, r3) := by
    have h := H.out
    unfold voice_Coder_decode.f at h
    rwa [if_pos hok] at h
  clear H
  obtain ⟨hk0, hk1, hlen, hc0, hc1, hp0, hp1, ht0, ht1⟩ := of_decide_eq_true hok
  clear hok
  obtain ⟨ASz2_2, cSz2_2, HGz2, hgz2, HSz2_2⟩ := HI0.out
  have hcz2_0 := cellS55_0 HGz2
  have hcz2_1 := cellS55_1 HGz2
  have hcz2_2 := cellS55_2 HGz2
  have hfz2_0 := blk_frozen HGz2 0
  have hfz2_1 := blk_frozen HGz2 1
  clear HGz2 hgz2
  have hkl : s0_1 < (s0_2.length : Int) := by omega
  obtain ⟨ad, ead, hx⟩ := Kd.at_int (Kd.C_below HSz2_2 HB.out) s0_1 hk0 hkl
  cases ead
  obtain ⟨t, ht⟩ : ∃ t, rd s0_2 s0_1 = t := ⟨_, rfl⟩
  rw [ht] at hx H2 ht0 ht1
  injection H2 with H2
  simp only [Prod.mk.injEq] at H2
  obtain ⟨rfl, rfl, rfl⟩ := H2
  clear ht
  go_enter Tryd.func32, Tryd.ntmps32
  go_wp2
  repeat (go_quiet (fail); try go_wp2)
  obtain ⟨W1, hW1⟩ : ∃ W1, (w.drewN nq).alloc (.cells #[.int .i64 4, .int .i64 2, .int .i64 1] 3) = W1 := ⟨_, rfl⟩
  have HS1 : Aside0 (IsS55 w0 W1 g s0_0 s0_1 s0_2) := ⟨by rw [← hW1]; exact IsS55.alloc (IsS55.drewN HI0.out nq) _⟩
  have HB1 : Aside0 (Below w0.heap.size w0 W1) := ⟨by rw [← hW1]; exact below_alloc (pw_below_drewN HB.out nq) _⟩
  have HK1 : Aside0 (KeepBut w W1 g none) := ⟨by rw [← hW1]; exact keep_alloc (keep_drewN HK.out nq) _⟩
  have hl4 : W1.cell? ⟨w.heap.size, 0, none⟩ = some (.int .i64 4) := by rw [← hW1]; exact (blk_cell (heap_alloc_new (w.drewN nq) _) 0).trans rfl
  have hl2 : W1.cell? ⟨w.heap.size, 1, none⟩ = some (.int .i64 2) := by rw [← hW1]; exact (blk_cell (heap_alloc_new (w.drewN nq) _) 1).trans rfl
  have hl1 : W1.cell? ⟨w.heap.size, 2, none⟩ = some (.int .i64 1) := by rw [← hW1]; exact (blk_cell (heap_alloc_new (w.drewN nq) _) 2).trans rfl
  rw [hW1]
  clear hW1 hcz2_0 hcz2_1 hcz2_2 hfz2_0 hfz2_1 hx HSz2_2
  have hb4 : ∀ b : Bool, (Go.bits .and .i64 a1 4 != 0) = b → (b = true ↔ a1 / 4 % 2 = 1) := fun b h => by subst h; exact vBit4 a1 hc0 hc1
  have hb2 : ∀ b : Bool, (Go.bits .and .i64 a1 2 != 0) = b → (b = true ↔ a1 / 2 % 2 = 1) := fun b h => by subst h; exact vBit2 a1 hc0 hc1
  have hb1 : ∀ b : Bool, (Go.bits .and .i64 a1 1 != 0) = b → (b = true ↔ a1 % 2 = 1) := fun b h => by subst h; exact vBit1 a1 hc0 hc1
  have hb8 : ∀ b : Bool, (Go.bits .and .i64 a1 8 != 0) = b → (b = true ↔ a1 / 8 = 1) := fun b h => by subst h; exact vBit8 a1 hc0 hc1
  go_loopg [6, 23] 3 (fun g s6 s23 wx => ∃ i : Nat, i + g = 3 ∧ s23 = .int .i64 i ∧ s6 = .int .i64 (vSum t a1 i) ∧ wx = W1)
  case atStart => exact ⟨0, by omega, rfl, by rw [vSum0], rfl⟩
  case round =>
    obtain ⟨i, hig, rfl, rfl, rfl⟩ := hrel
    have hi : i = 0 ∨ i = 1 ∨ i = 2 ∨ i = 3 := by omega
    rcases hi with rfl | rfl | rfl | rfl
    · cases hb : (Go.bits .and .i64 a1 4 != 0) with
      | true =>
        have hq := (hb4 _ hb).1 rfl
        go_wp2
        repeat (go_quiet (fail); try go_wp2)
        go_roundg 2
        case measure => omega
        case rel => exact ⟨1, by omega, rfl, by rw [← vSum1t ht0 ht1 hq], rfl⟩
      | false =>
        have hq : ¬ _ := fun h => Bool.false_ne_true ((hb4 _ hb).2 h)
        go_wp2
        repeat (go_quiet (fail); try go_wp2)
        go_roundg 2
        case measure => omega
        case rel => exact ⟨1, by omega, rfl, by rw [vSum1f hq], rfl⟩
    · cases hb : (Go.bits .and .i64 a1 2 != 0) with
      | true =>
        have hq := (hb2 _ hb).1 rfl
        go_wp2
        repeat (go_quiet (fail); try go_wp2)
        go_roundg 1
        case measure => omega
        case rel => exact ⟨2, by omega, rfl, by rw [← vSum2t ht0 ht1 hq], rfl⟩
      | false =>
        have hq : ¬ _ := fun h => Bool.false_ne_true ((hb2 _ hb).2 h)
        go_wp2
        repeat (go_quiet (fail); try go_wp2)
        go_roundg 1
        case measure => omega
        case rel => exact ⟨2, by omega, rfl, by rw [vSum2f hq], rfl⟩
    · cases hb : (Go.bits .and .i64 a1 1 != 0) with
      | true =>
        have hq := (hb1 _ hb).1 rfl
        go_wp2
        repeat (go_quiet (fail); try go_wp2)
        go_roundg 0
        case measure => omega
        case rel => exact ⟨3, by omega, rfl, by rw [← vSum3t ht0 ht1 hq], rfl⟩
      | false =>
        have hq : ¬ _ := fun h => Bool.false_ne_true ((hb1 _ hb).2 h)
        go_wp2
        repeat (go_quiet (fail); try go_wp2)
        go_roundg 0
        case measure => omega
        case rel => exact ⟨3, by omega, rfl, by rw [vSum3f hq], rfl⟩
    · rw [vSum3]
      obtain ⟨Aw, cw, HG, hg', HSr⟩ := HS1.out
      have hcz_0 := cellS55_0 HG
      have hcz_1 := cellS55_1 HG
      have hcz_2 := cellS55_2 HG
      have hfz_0 := blk_frozen HG 0
      have hfz_1 := blk_frozen HG 1
      clear HG hg' HSr
      have hd := vDelta_bd (a := a1) ht0 ht1
      have htb := vTab_bd a1
      have hw3 : wrap64 (s0_1 + vTab a1) = s0_1 + vTab a1 := Hand.w64 (by omega) (by omega)
      have key : ∀ x y x' y', x = x' → y = y' → ∀ W, IsS55 w0 W g x y s0_2 → IsS55 w0 W g x' y' s0_2 := by rintro _ _ _ _ rfl rfl _ h; exact h
      cases hb : (Go.bits .and .i64 a1 8 != 0) with
      | true =>
        have hq := (hb8 _ hb).1 rfl
        have hP : vP s0_0 t a1 = min (max (s0_0 + - vDelta t a1) (-32768)) 32767 := by unfold vP; rw [_root_.if_pos hq]
        have hw1 : wrap64 (- vDelta t a1) = - vDelta t a1 := Hand.w64 (by omega) (by omega)
        have hw2 : wrap64 (s0_0 + - vDelta t a1) = s0_0 + - vDelta t a1 := Hand.w64 (by omega) (by omega)
        go_wp2
        repeat (go_quiet (fail); try go_wp2)
        all_goals go_region
        all_goals go_wp2
        all_goals (repeat (go_quiet (fail); try go_wp2))
        all_goals go_ret
        all_goals refine ⟨?_, ?_, ?_, ?_⟩
        all_goals try (refine congrArg Ending.returned (congrArg (Value.int .i64) (?_ : _ = _)))
        all_goals try (repeat (first | with_reducible exact HB1.out | with_reducible apply below_drew1 | with_reducible apply pw_below_drewN | with_reducible refine below_set ?_ (IsS55.ge HI0.out)))
        all_goals try (repeat (first | with_reducible exact HK1.out | with_reducible apply KeepBut.set_ | with_reducible apply keep_drewN | with_reducible apply keep_drew))
        all_goals try (repeat (first | with_reducible exact HS1.out | with_reducible apply IsS55.drewN | with_reducible apply IsS55.drew | with_reducible apply IsS55.set_1 | with_reducible apply IsS55.set_0))
        all_goals ((try rw [hP]); clear hP; (try unfold vK); first | omega | exact key _ _ _ _ (by omega) (by omega) _ (IsS55.set_1 (IsS55.set_0 HS1.out _) _))
      | false =>
        have hq : ¬ a1 / 8 = 1 := fun h => Bool.false_ne_true ((hb8 _ hb).2 h)
        have hP : vP s0_0 t a1 = min (max (s0_0 + vDelta t a1) (-32768)) 32767 := by unfold vP; rw [_root_.if_neg hq]
        have hw2 : wrap64 (s0_0 + vDelta t a1) = s0_0 + vDelta t a1 := Hand.w64 (by omega) (by omega)
        go_wp2
        repeat (go_quiet (fail); try go_wp2)
        all_goals go_region
        all_goals go_wp2
        all_goals (repeat (go_quiet (fail); try go_wp2))
        all_goals go_ret
        all_goals refine ⟨?_, ?_, ?_, ?_⟩
        all_goals try (refine congrArg Ending.returned (congrArg (Value.int .i64) (?_ : _ = _)))
        all_goals try (repeat (first | with_reducible exact HB1.out | with_reducible apply below_drew1 | with_reducible apply pw_below_drewN | with_reducible refine below_set ?_ (IsS55.ge HI0.out)))
        all_goals try (repeat (first | with_reducible exact HK1.out | with_reducible apply KeepBut.set_ | with_reducible apply keep_drewN | with_reducible apply keep_drew))
        all_goals try (repeat (first | with_reducible exact HS1.out | with_reducible apply IsS55.drewN | with_reducible apply IsS55.drew | with_reducible apply IsS55.set_1 | with_reducible apply IsS55.set_0))
        all_goals ((try rw [hP]); clear hP; (try unfold vK); first | omega | exact key _ _ _ _ (by omega) (by omega) _ (IsS55.set_1 (IsS55.set_0 HS1.out _) _))
theorem vP_bd (p t c : Int) : -32768 ≤ vP p t c ∧ vP p t c ≤ 32767 := by unfold vP; omega
theorem vK_bd (k c : Int) : 0 ≤ vK k c ∧ vK k c ≤ 88 := by unfold vK; omega
theorem vOk_steps {p k c : Int} (hk0 : 0 ≤ k) (hk1 : k ≤ 88) (hc0 : 0 ≤ c) (hc1 : c < 16) (hp0 : -32768 ≤ p) (hp1 : p ≤ 32767) : vOk p k (vStepsL 89) c = true :=
  decide_eq_true ⟨hk0, hk1, rfl, hc0, hc1, hp0, hp1, vStep_bd k hk0 hk1⟩

end Go.Proofs.YtbloalfgbpgepaaDoor.C
