/- Laid by a program of this repo over the translation: each Go function as a plain Lean function with the proof that the call comes to its answers, or a statement's row out of these; conditions: the hypotheses of each theorem. -/
import Derived.Test.YtphkkdjinehhoaaGx0
import Derived.Test.YtphkkdjinehhoaaGx1
import Derived.Test.YtphkkdjinehhoaaGx2
import Derived.Test.YtphkkdjinehhoaaGx4
namespace Go.Proofs.Ytphkkdjinehhoaa.G
open Go.RowKit Go.Proofs.YtphkkdjinehhoaaW.PrintWords Go.Proofs.YtphkkdjinehhoaaW.PrintLast Go.Proofs.YtphkkdjinehhoaaW.PrintMore
attribute [local go_sem] max2_int min2_int max_two min_two max_three min_three max_four min_four   -- for this text's walks alone
set_option linter.unusedVariables false
set_option linter.unusedSimpArgs false

/-! ### voice_Wave: function 25 -/
-- EXT rounds=0 making=1
/-- The lowest n bytes of a number, the lowest one first. -/
def wLe : Nat → Int → List Int
  | 0, _ => []
  | n + 1, v => v % 256 :: wLe n (v / 256)
def wHead (n rate : Int) : List Int := [82, 73, 70, 70] ++ wLe 4 (36 + 2 * n) ++ [87, 65, 86, 69, 102, 109, 116, 32] ++ wLe 4 16 ++ wLe 2 1 ++ wLe 2 1 ++ wLe 4 rate ++ wLe 4 (2 * rate) ++ wLe 2 2 ++ wLe 2 16 ++ [100, 97, 116, 97] ++ wLe 4 (2 * n)
def wData : List Int → List Int
  | [] => []
  | x :: r => wLe 2 x ++ wData r
def wOk (l : List Int) (rate : Int) : Bool := l.all vIn && decide (1 ≤ rate ∧ rate ≤ 1000000)
theorem wLe_length : ∀ (n : Nat) (v : Int), (wLe n v).length = n
  | 0, _ => rfl
  | n + 1, v => by rw [wLe, List.length_cons, wLe_length n]
theorem pow_256 (i : Nat) : (2 : Int) ^ (8 * i) = 256 ^ i := by rw [Int.pow_mul]; rfl
theorem put_from (v : Int) (n : Nat) (hn : n ≤ 8) : ∀ (m i : Nat) (xs : List Int), i + m = n → xs.length ≤ 1000000 + i → wide_Put.l0 (m + 1) xs v (n : Int) true (n : Int) (i : Int) = some (xs ++ wLe m (v / 256 ^ i))
  | 0, i, xs, h, hl => by
    rw [wide_Put.l0, if_neg (by omega), wLe, List.append_nil]
  | m + 1, i, xs, h, hl => by
    have e : wrap64 (8 * (i : Int)) = ((8 * i : Nat) : Int) := by rw [Hand.w64 (by omega) (by omega)]; omega
    rw [wide_Put.l0, if_pos (by omega), if_pos rfl, e, if_pos (by omega), if_pos (by omega), Hand.shr_eq (by have : IntKind.u64.bits = 64 := rfl; omega), pow_256,
      show wrap64 ((i : Int) + 1) = ((i + 1 : Nat) : Int) by rw [Hand.w64 (by omega) (by omega)]; rfl, put_from v n hn m (i + 1) _ (by omega) (by rw [List.length_append, List.length_singleton]; omega), wLe, List.append_assoc]
    rw [Int.pow_succ, Int.ediv_ediv_of_nonneg (Int.pow_nonneg (by decide)), List.singleton_append]
theorem put_le (xs : List Int) (v : Int) (n : Nat) (hn : n ≤ 8) (hl : xs.length ≤ 1000000) : wide_Put.f (n + 1) xs v (n : Int) true = some (xs ++ wLe n v) := by
  unfold wide_Put.f
  have := put_from v n hn n 0 xs (by omega) (by omega)
  rw [Int.pow_zero, Int.ediv_one] at this
  exact this
theorem put4.calls {w0 W : World} {u : Value} {xs : List Int} (v : Int) (hl : xs.length ≤ 1000000) (ho : Kd.R (Kd.int .u8) 5 W w0.heap.size (fun _ => True) u xs) (hb : Below w0.heap.size w0 W) :
    Calls Try.prog 41 #[u, .int .u64 v, .int .i64 4, .bool true] W fun e w' => ∃ v0_ : Value, e = .returned v0_ ∧ Kd.R (Kd.int .u8) 5 w' w0.heap.size (fun _ => True) v0_ (xs ++ wLe 4 v) ∧ Below w0.heap.size w0 w' :=
  (wide_Put.calls 5 (fun _ => True) u xs v 4 true _ w0 W hb ho (put_le xs v 4 (by decide) hl)).mono fun e w' ⟨v0, he, ho, hb, _⟩ => ⟨v0, he, Kd.R_mono ho (fun _ _ => trivial), hb⟩
theorem put2.calls {w0 W : World} {u : Value} {xs : List Int} (v : Int) (hl : xs.length ≤ 1000000) (ho : Kd.R (Kd.int .u8) 5 W w0.heap.size (fun _ => True) u xs) (hb : Below w0.heap.size w0 W) :
    Calls Try.prog 41 #[u, .int .u64 v, .int .i64 2, .bool true] W fun e w' => ∃ v0_ : Value, e = .returned v0_ ∧ Kd.R (Kd.int .u8) 5 w' w0.heap.size (fun _ => True) v0_ (xs ++ wLe 2 v) ∧ Below w0.heap.size w0 w' :=
  (wide_Put.calls 3 (fun _ => True) u xs v 2 true _ w0 W hb ho (put_le xs v 2 (by decide) hl)).mono fun e w' ⟨v0, he, ho, hb, _⟩ => ⟨v0, he, Kd.R_mono ho (fun _ _ => trivial), hb⟩
/-- What stands in Put's first slot, behind i bytes: the full slice that came in, or a row of the call's own. -/
def PutAt (w : World) (b n : Nat) (xs : List Int) (v : Int) (i : Nat) (u : Value) (W : World) : Prop :=
  (i = 0 ∧ u = .slice (some ⟨b, 0, none⟩) n n ∧ W = w) ∨ (0 < i ∧ Kd.R (Kd.int .u8) 5 W w.heap.size (fun _ => True) u (xs ++ (wLe 4 v).take i) ∧ Below w.heap.size w W)
theorem C_olds {w : World} {b n : Nat} {xs : List Int} (h : Kd.C (Kd.int .u8) w (some ⟨b, 0, none⟩) n xs) : ∀ a, some (⟨b, 0, none⟩ : Addr) = some a → ∀ j u, (nums .u8 xs)[j]? = some u → w.cell? (a.add j) = some u := by
  intro a ha j u hu
  obtain rfl := Option.some.inj ha
  have hl : xs.length = n := h.1
  have hj : j < xs.length := by have := (List.getElem?_eq_some_iff.1 hu).1; rwa [nums_length] at this
  obtain ⟨ad, e, hc⟩ := Kd.at_int h (j : Int) (by omega) (by omega)
  cases e
  rw [Int.toNat_natCast] at hc
  rw [hc, ← hu]
  simp [nums, rd, hj]
theorem step_grow {P : Program} {ops : Array Oper} {rest : List Oper} {o : Oper} {a : Act} {Q : Exit → Act → World → Prop} {W : World} {Good : Value → World → Prop} {v1 v2 : Value} (hgd : o.guard = none) (s x : Operand) (t : TypeId)
    (ho : o.op = .call { callee := .builtin .append, args := #[s, x], argTypes := #[t, t] }) (hs : a.eval s = v1) (hx : a.eval x = v2)
    (hrun : ∀ ty, ∃ v' w', (Builtin.append_ #[t, t] ty #[v1, v2]).run P W = .ok v' w' ∧ Good v' w') (h : ∀ v' w', Good v' w' → wpList P ops Q rest (a.put o.dst v') w') : wpList P ops Q (o :: rest) a W := by
  refine wpList_plain hgd fun K hK' => ?_
  obtain ⟨v', w', hr, hG⟩ := hrun o.type
  unfold Oper.wp
  simp [execOp, ho, resolve, invoke, builtin, hs, hx, hr, Result.andThen]
  exact hK' _ _ (h v' w' hG)
/-- An append to a full slice that came in. -/
theorem grow_full {b n : Nat} {xs : List Int} {w : World} (x : Int) (hr : Kd.C (Kd.int .u8) w (some ⟨b, 0, none⟩) n xs) (hn : n ≤ 1000) :
    ∀ ty : TypeId, ∃ v' w', (Builtin.append_ #[37, 37] ty #[.slice (some ⟨b, 0, none⟩) n n, .slice (some ⟨w.heap.size, 0, none⟩) 1 1]).run Try.prog (w.alloc (.cells #[.int .u8 x] 5)) = .ok v' w' ∧ (Kd.R (Kd.int .u8) 5 w' w.heap.size (fun _ => True) v' (xs ++ [x]) ∧ Below w.heap.size w w') := by
  intro ty
  have hlen : xs.length = n := hr.1
  obtain ⟨i0, hi, hz0, hz1, hz2⟩ := info_parts info5
  obtain ⟨v', w', hrun, hown, hg⟩ := run_append_arg_grows (P := Try.prog) (w := w.alloc (.cells #[.int .u8 x] 5)) 37 ty 5 i0 (.int .u8 0) 1 1 Try.underlying37 hi hz0 hz1 hz2 rfl (by decide) ⟨b, 0, none⟩ n n (nums .u8 xs) (by rw [nums_length, hlen, Nat.mul_one])
    (fun j u hu => pw_cell_below (below_alloc (Below.refl _ _) _) (C_olds hr _ rfl j u hu)) ⟨w.heap.size, 0, none⟩ 1 1 [.int .u8 x] rfl (fun j u hu => by rw [add_plain]; exact (blk_cell (heap_alloc_new w _) j).trans (by simpa using hu)) (by omega) (by simp only [maxLen]; omega) (by omega)
  refine ⟨v', w', hrun, Kd.R_lower (base' := w.heap.size) (Kd.R_of_own (h1 := fun _ => rfl) (ok := fun _ => True) (base := (w.alloc (.cells #[.int .u8 x] 5)).heap.size) ?_ (fun _ _ => trivial)) ?_, ?_⟩
  · have : (xs ++ [x]).length = n + 1 := by rw [List.length_append, hlen]; rfl
    rw [this]
    have h2 : encs (Value.int .u8) (xs ++ [x]) = nums .u8 xs ++ [.int .u8 x] := by simp [encs, nums]
    rw [h2]
    exact hown
  · simp
  · exact (below_alloc (Below.refl _ _) _).grown hg (by simp) (fun k h => by cases h)
set_option maxHeartbeats 4000000 in
theorem put_full.calls (b n : Nat) (xs : List Int) (v : Int) (w : World) (hr : Kd.C (Kd.int .u8) w (some ⟨b, 0, none⟩) n xs) (hn : n ≤ 1000) (hv0 : 0 ≤ v) (hv1 : v < 4294967296) :
    Calls Try.prog 41 #[.slice (some ⟨b, 0, none⟩) n n, .int .u64 v, .int .i64 4, .bool true] w fun e w' => ∃ v0_ : Value, e = .returned v0_ ∧ Kd.R (Kd.int .u8) 5 w' w.heap.size (fun _ => True) v0_ (xs ++ wLe 4 v) ∧ Below w.heap.size w w' := by
  have hlen : xs.length = n := hr.1
  have HR := Aside0.mk hr
  have HLN := Aside0.mk hlen
  have HN := Aside0.mk hn
  clear hr hlen hn
  have e0 : v / 1 = v := by omega
  have HE : Aside0 (wLe 4 v = [v % 256, v / 256 % 256, v / 65536 % 256, v / 16777216]) := ⟨by
    simp only [wLe]
    rw [show v / 256 / 256 = v / 65536 by omega, show v / 65536 / 256 = v / 16777216 by omega, show v / 16777216 % 256 = v / 16777216 by omega]⟩
  obtain ⟨i0, hi, hz0, hz1, hz2⟩ := info_parts info5
  go_enter Try.func41, Try.ntmps41
  go_wp2
  go_loopg [0, 12] 4 (fun kq v0 v12 W => ∃ i : Nat, v12 = .int .i64 i ∧ i + kq = 4 ∧ Aside0 (PutAt w b n xs v i v0 W))
  case atStart => exact ⟨0, rfl, by omega, ⟨.inl ⟨rfl, rfl, rfl⟩⟩⟩
  case round =>
    obtain ⟨i, rfl, hk, HP⟩ := hrel
    have hc : i = 0 ∨ i = 1 ∨ i = 2 ∨ i = 3 ∨ i = 4 := by omega
    rcases hc with rfl | rfl | rfl | rfl | rfl
    · obtain ⟨q, rfl⟩ : ∃ q, gk = q + 1 := ⟨gk - 1, by omega⟩
      rcases HP.out with ⟨_, rfl, rfl⟩ | ⟨h, _⟩
      · clear HP
        have hgr := Aside0.mk (grow_full (b := b) (n := n) (xs := xs) (w := wr) (v % 256) HR.out HN.out)
        go_wp2_with (at_builtin; refine step_grow rfl (.tmp 21) (.tmp 27) 37 rfl rfl rfl hgr.out ?_; rintro v' w' ⟨hown, hb⟩; have HW := Aside0.mk hown; have HG := Aside0.mk hb; clear hown hb)
        go_roundg q
        case measure => omega
        case rel => exact ⟨1, rfl, by omega, ⟨.inr ⟨by omega, by rw [HE.out]; exact HW.out, HG.out⟩⟩⟩
      · omega
    · obtain ⟨q, rfl⟩ : ∃ q, gk = q + 1 := ⟨gk - 1, by omega⟩
      rcases HP.out with ⟨h, _⟩ | ⟨_, ho, hb⟩
      · omega
      · clear HP
        rw [HE.out] at ho
        have ho : Kd.R (Kd.int .u8) 5 wr w.heap.size (fun _ => True) u0 (xs ++ [v % 256]) := ho
        have HO := Aside0.mk ho
        have HB := Aside0.mk hb
        have HL : Aside0 ((xs ++ [v % 256]).length ≤ 1010) := ⟨by rw [List.length_append, HLN.out]; have := HN.out; simp; omega⟩
        clear ho hb
        go_wp2_with (at_builtin; refine Kd.R_append (Kd.int .u8) (w0 := w) w.heap.size rfl (.tmp 21) (.tmp 27) 37 5 (.int .u8 0) 1 rfl Try.underlying37 info5 rfl (by decide) (by omega) u0 (xs ++ [v % 256]) (v / 256 % 256) [.int .u8 (v / 256 % 256)] (fun _ => True) (fun _ => False) rfl rfl rfl (fun _ hk => hk.elim) (fun _ _ => trivial) HO.out HB.out HB.out.size ?aL ?_; (case aL => have := HL.out; omega); intro v1 w2 ho hb _ _; have HW := Aside0.mk ho; have HG := Aside0.mk hb; clear ho hb)
        go_roundg q
        case measure => omega
        case rel => exact ⟨2, rfl, by omega, ⟨.inr ⟨by omega, by rw [HE.out]; have h := HW.out; rw [List.append_assoc] at h; exact h, HG.out⟩⟩⟩
    · obtain ⟨q, rfl⟩ : ∃ q, gk = q + 1 := ⟨gk - 1, by omega⟩
      rcases HP.out with ⟨h, _⟩ | ⟨_, ho, hb⟩
      · omega
      · clear HP
        rw [HE.out] at ho
        have ho : Kd.R (Kd.int .u8) 5 wr w.heap.size (fun _ => True) u0 (xs ++ [v % 256, v / 256 % 256]) := ho
        have HO := Aside0.mk ho
        have HB := Aside0.mk hb
        have HL : Aside0 ((xs ++ [v % 256, v / 256 % 256]).length ≤ 1010) := ⟨by rw [List.length_append, HLN.out]; have := HN.out; simp; omega⟩
        clear ho hb
        go_wp2_with (at_builtin; refine Kd.R_append (Kd.int .u8) (w0 := w) w.heap.size rfl (.tmp 21) (.tmp 27) 37 5 (.int .u8 0) 1 rfl Try.underlying37 info5 rfl (by decide) (by omega) u0 (xs ++ [v % 256, v / 256 % 256]) (v / 65536 % 256) [.int .u8 (v / 65536 % 256)] (fun _ => True) (fun _ => False) rfl rfl rfl (fun _ hk => hk.elim) (fun _ _ => trivial) HO.out HB.out HB.out.size ?aL ?_; (case aL => have := HL.out; omega); intro v1 w2 ho hb _ _; have HW := Aside0.mk ho; have HG := Aside0.mk hb; clear ho hb)
        go_roundg q
        case measure => omega
        case rel => exact ⟨3, rfl, by omega, ⟨.inr ⟨by omega, by rw [HE.out]; have h := HW.out; rw [List.append_assoc] at h; exact h, HG.out⟩⟩⟩
    · obtain ⟨q, rfl⟩ : ∃ q, gk = q + 1 := ⟨gk - 1, by omega⟩
      rcases HP.out with ⟨h, _⟩ | ⟨_, ho, hb⟩
      · omega
      · clear HP
        rw [HE.out] at ho
        have ho : Kd.R (Kd.int .u8) 5 wr w.heap.size (fun _ => True) u0 (xs ++ [v % 256, v / 256 % 256, v / 65536 % 256]) := ho
        have HO := Aside0.mk ho
        have HB := Aside0.mk hb
        have HL : Aside0 ((xs ++ [v % 256, v / 256 % 256, v / 65536 % 256]).length ≤ 1010) := ⟨by rw [List.length_append, HLN.out]; have := HN.out; simp; omega⟩
        clear ho hb
        go_wp2_with (at_builtin; refine Kd.R_append (Kd.int .u8) (w0 := w) w.heap.size rfl (.tmp 21) (.tmp 27) 37 5 (.int .u8 0) 1 rfl Try.underlying37 info5 rfl (by decide) (by omega) u0 (xs ++ [v % 256, v / 256 % 256, v / 65536 % 256]) (v / 16777216) [.int .u8 (v / 16777216)] (fun _ => True) (fun _ => False) rfl rfl rfl (fun _ hk => hk.elim) (fun _ _ => trivial) HO.out HB.out HB.out.size ?aL ?_; (case aL => have := HL.out; omega); intro v1 w2 ho hb _ _; have HW := Aside0.mk ho; have HG := Aside0.mk hb; clear ho hb)
        go_roundg q
        case measure => omega
        case rel => exact ⟨4, rfl, by omega, ⟨.inr ⟨by omega, by rw [HE.out]; have h := HW.out; rw [List.append_assoc] at h; exact h, HG.out⟩⟩⟩
    · rcases HP.out with ⟨h, _⟩ | ⟨_, ho, hb⟩
      · omega
      · clear HP
        have HO := Aside0.mk ho
        have HB := Aside0.mk hb
        clear ho hb
        go_wp2
        go_ret
        exact ⟨_, rfl, by have h := HO.out; rw [HE.out] at h ⊢; exact h, HB.out⟩
theorem lit_full (W : World) (xs : List Int) (f : Nat × Nat) (hl : xs.length ≤ 1000) : Kd.C (Kd.int .u8) (W.alloc (.cells (nums .u8 xs).toArray 5 f)) (some ⟨W.heap.size, 0, none⟩) xs.length xs := by
  have h := (Kd.R_reads' (Kd.R_of_own (h1 := fun _ => rfl) (ok := fun _ => True) (own_lit W W.heap.size 5 .u8 xs (Nat.le_refl _) (by omega)) (fun _ _ => trivial))).2.2
  refine Hand.C_cells h fun j => ?_
  have h1 : (W.alloc (.cells (nums .u8 xs).toArray 5 f)).heap[W.heap.size]? = some (.cells (nums .u8 xs).toArray 5 f) := heap_alloc_new W _
  have h2 : (W.alloc (.cells (nums .u8 xs).toArray 5)).heap[W.heap.size]? = some (.cells (nums .u8 xs).toArray 5 (0, 0)) := heap_alloc_new W _
  simp only [World.cell?, h1]
  exact (by simp only [h2] : _ = _).symm
theorem wHead_length (n rate : Int) : (wHead n rate).length = 44 := by simp [wHead, wLe_length]
theorem wData_cons (x : Int) (r : List Int) : wData (x :: r) = wLe 2 x ++ wData r := rfl
def wFull (l : List Int) (rate : Int) : List Int := wHead l.length rate ++ wData l
def voice_Wave.f (l0 : List Int) (a1 : Int) : Option (List Int × Int) := if wOk l0 a1 = true then (if l0.length ≤ 80000 then some (wFull l0 a1, 0) else some ([], 3)) else some ([], 1)
theorem wLe_u16 (x : Int) : wLe 2 (IntKind.u64.wrap (IntKind.u16.wrap x)) = wLe 2 x := by
  have h16 : IntKind.u16.wrap x = x % 65536 := by simp [IntKind.wrap, IntKind.signed, IntKind.bits]
  rw [h16, IntKind.wrap_u64]
  simp only [wLe]
  rw [show x % 65536 % 18446744073709551616 % 256 = x % 256 by omega, show x % 65536 % 18446744073709551616 / 256 % 256 = x / 256 % 256 by omega]
set_option maxHeartbeats 8000000 in
set_option maxRecDepth 100000 in
theorem voice_Wave.does (A0 : Option Addr) (c0 : Nat) (l0 : List Int) (a1 : Int) (w : World) (hr0 : Kd.C (Kd.int .i64) w A0 l0.length l0) (hc0 : l0.length ≤ c0) (h : wOk l0 a1 = true) (hl : l0.length ≤ 80000) :
    Calls Try.prog 25 #[.slice A0 l0.length c0, .int .i64 a1] w fun e w' => ∃ v0_ : Value, e = .returned (.tuple #[v0_, .int .i64 0]) ∧ Kd.R (Kd.int .u8) 5 w' w.heap.size (fun _ => True) v0_ (wFull l0 a1) ∧ Below w.heap.size w w' := by
  have HR0 := Aside0.mk hr0
  have HC0 := Aside0.mk hc0
  clear hr0 hc0
  unfold wOk at h
  simp only [Bool.and_eq_true, decide_eq_true_eq] at h
  obtain ⟨ha, hr1, hr2⟩ := h
  have HA := Aside0.mk ha
  clear ha
  have d1 : decide (a1 < 1) = false := decide_eq_false (by omega)
  have d2 : decide (1000000 < a1) = false := decide_eq_false (by omega)
  have d3 : decide (80000 < (l0.length : Int)) = false := decide_eq_false (by omega)
  have d4 : decide (80000 < l0.length) = false := decide_eq_false (by omega)
  have q1 : IntKind.u64.wrap (36 + 2 * (l0.length : Int)) = 36 + 2 * (l0.length : Int) := by rw [IntKind.wrap_u64]; omega
  have q2 : IntKind.u64.wrap (2 * (l0.length : Int)) = 2 * (l0.length : Int) := by rw [IntKind.wrap_u64]; omega
  have q3 : IntKind.u64.wrap a1 = a1 := by rw [IntKind.wrap_u64]; omega
  have q4 : IntKind.u64.wrap (2 * a1) = 2 * a1 := by rw [IntKind.wrap_u64]; omega
  have HL := Aside0.mk hl
  have TK : Aside0 True := ⟨trivial⟩
  obtain ⟨RR, hRR⟩ : ∃ RR, wFull l0 a1 = RR := ⟨_, rfl⟩
  rw [hRR]
  have HRR := Aside0.mk hRR
  clear hRR
  have kc : ∀ (m : Nat) (C : Array Value) (n c : Nat), (convert 37 37 (.slice (some ⟨w.heap.size, 0, none⟩) n c)).run Try.prog ((w.drewN m).alloc (.cells C 5)) = .ok (.slice (some ⟨w.heap.size, 0, none⟩) n c) ((w.drewN m).alloc (.cells C 5 (C.size, C.size + 1))) := fun m C n c => Lib.run_convert_bytes_const (P := Try.prog) (w.drewN m) 37 5 C n c Try.underlying37 Try.underlying5
  go_enter Try.func25, Try.ntmps25
  go_wp2_with (first
    | (go_at_call 35; (with_reducible refine (voice_areSamples.calls A0 c0 l0 true _ HR0.out HC0.out (voice_areSamples.vin HA.out)).mono ?_); rintro e w' ⟨rfl, ⟨nd, rfl⟩⟩)
    | (go_at_call 41; have tk := TK; (with_reducible refine (put_full.calls _ 4 [82, 73, 70, 70] _ _ ?c (by decide) ?v0 ?v1).mono ?_); (case c => exact lit_full _ [82, 73, 70, 70] _ (by decide)); (case v0 => omega); (case v1 => omega); rintro e w5 ⟨v5, rfl, ho, hb⟩; have HO := Aside0.mk (Kd.R_lower (base' := w.heap.size) ho (by simp)); have HB := Aside0.mk ((below_alloc (pw_below_drewN (Below.refl w.heap.size w) nd) _).trans (hb.mono (by simp))); clear ho hb tk TK)
    | (go_at_call 41; (with_reducible refine (put4.calls (w0 := w) _ ?c HO.out HB.out).mono ?_); (case c => (simp [wLe_length, bytesOf_length, ByteArray.size])); rintro e w5 ⟨v5, rfl, ho, hb⟩; clear HO HB; have HO := Aside0.mk ho; have HB := Aside0.mk hb; clear ho hb)
    | (go_at_call 41; (with_reducible refine (put2.calls (w0 := w) _ ?c HO.out HB.out).mono ?_); (case c => (simp [wLe_length, bytesOf_length, ByteArray.size])); rintro e w5 ⟨v5, rfl, ho, hb⟩; clear HO HB; have HO := Aside0.mk ho; have HB := Aside0.mk hb; clear ho hb)
    | (at_builtin; refine print_append_str (w0 := w) w.heap.size rfl _ _ 37 9 5 rfl Try.underlying37 Try.underlying9 info5 v5 _ _ rfl rfl (Kd.own_of_R HO.out) HB.out HB.out.size ?aL ?_; (case aL => (simp [wLe_length, bytesOf_length, ByteArray.size])); intro v6 w6 hown hb hg; clear HO HB; have HO : Aside0 (Kd.R (Kd.int .u8) 5 w6 w.heap.size (fun _ => True) v6 _) := ⟨Kd.R_of_own (h1 := fun _ => rfl) (ok := fun _ => True) hown (fun _ _ => trivial)⟩; have HB := Aside0.mk hb; clear hown hb hg))
  clear q1 q2 q3 q4 d1 d2 d3 d4 kc
  go_loopg [6, 57] l0.length (fun kq v6 v57 W => ∃ (i : Int) (xs : List Int), v57 = .int .i64 i ∧ 0 ≤ i ∧ i + kq = l0.length ∧ Aside0 (xs.length = 44 + 2 * i.toNat) ∧ Aside0 (xs ++ wData (l0.drop i.toNat) = RR) ∧ Aside0 (Kd.R (Kd.int .u8) 5 W w.heap.size (fun _ => True) v6 xs) ∧ Aside0 (Below w.heap.size w W))
  case atStart => exact ⟨0, _, rfl, by omega, by omega, ⟨by rw [wHead_length]; rfl⟩, ⟨HRR.out⟩, HO, HB⟩
  case round =>
    clear HO HB HRR
    obtain ⟨i, xs, rfl, hi0, hik, HLN, HX, HO, HB⟩ := hrel
    by_cases ci : i < (l0.length : Int)
    · obtain ⟨q, rfl⟩ : ∃ q, gk = q + 1 := ⟨gk - 1, by omega⟩
      have cib : decide (i < (l0.length : Int)) = true := decide_eq_true ci
      obtain ⟨ad, e, hx⟩ := Kd.at_int HR0.out i hi0 ci
      cases e
      replace hx := pw_cell_below HB.out hx
      have hd : l0.drop i.toNat = rd l0 i :: l0.drop (i + 1).toNat := by
        rw [show (i + 1).toNat = i.toNat + 1 by omega, List.drop_eq_getElem_cons (by omega : i.toNat < l0.length)]
        congr 1
        unfold rd
        rw [List.getD_eq_getElem?_getD, List.getElem?_eq_getElem (by omega : i.toNat < l0.length)]; rfl
      have HX1 := HX.out
      rw [hd, wData_cons, ← wLe_u16, ← List.append_assoc] at HX1
      have HX := Aside0.mk HX1
      have HC : Aside0 (xs.length ≤ 1000000) := ⟨by have := HLN.out; have := HL.out; omega⟩
      have hxl : (xs ++ wLe 2 (IntKind.u64.wrap (IntKind.u16.wrap (rd l0 i)))).length = 44 + 2 * (i + 1).toNat := by rw [List.length_append, wLe_length]; have := HLN.out; omega
      have HXL := Aside0.mk hxl
      clear hd HX1 hxl
      go_wp2_with (go_at_call 41; (with_reducible refine (put2.calls (w0 := w) _ HC.out HO.out HB.out).mono ?_); rintro e w5 ⟨v5, rfl, ho, hb⟩; clear HO HB; have HO := Aside0.mk ho; have HB := Aside0.mk hb; clear ho hb)
      go_roundg q
      case measure => omega
      case rel => exact ⟨i + 1, _, by go_num, by omega, by omega, HXL, HX, HO, HB⟩
    · have cib : decide (i < (l0.length : Int)) = false := decide_eq_false ci
      have HX1 := HX.out
      rw [List.drop_eq_nil_of_le (by omega), wData, List.append_nil] at HX1
      have HX := Aside0.mk HX1
      clear HX1
      go_wp2
      go_ret2
      exact ⟨_, rfl, by rw [← HX.out]; exact HO.out, HB.out⟩
set_option maxHeartbeats 8000000 in
set_option maxRecDepth 100000 in
theorem voice_Wave.fails (A0 : Option Addr) (c0 : Nat) (l0 : List Int) (a1 : Int) (r2 : Int) (w : World) (hr0 : Kd.C (Kd.int .i64) w A0 l0.length l0) (hc0 : l0.length ≤ c0) (h : wOk l0 a1 = false ∧ r2 = 1 ∨ wOk l0 a1 = true ∧ 80000 < l0.length ∧ r2 = 3) :
    Calls Try.prog 25 #[.slice A0 l0.length c0, .int .i64 a1] w fun e w' => ∃ v0_ : Value, e = .returned (.tuple #[v0_, .int .i64 r2]) ∧ Kd.R (Kd.int .u8) 5 w' w.heap.size (fun _ => True) v0_ [] ∧ Below w.heap.size w w' := by
  have hm := Kd.C_max hr0
  have HR0 := Aside0.mk hr0
  have HC0 := Aside0.mk hc0
  clear hr0 hc0
  rcases h with ⟨h, rfl⟩ | ⟨h, hl, rfl⟩
  · unfold wOk at h
    cases ha : l0.all vIn with
    | false =>
      have HA := Aside0.mk ha
      clear h ha
      go_enter Try.func25, Try.ntmps25
      go_wp2_with (first
        | (go_at_call 35; (with_reducible refine (voice_areSamples.calls A0 c0 l0 _ _ HR0.out HC0.out (voice_areSamples.vin HA.out)).mono ?_); rintro e w' ⟨rfl, ⟨nd, rfl⟩⟩))
      go_ret2
      exact ⟨.slice none 0 0, rfl, Kd.R_nil _ _ _ _ _, by repeat (first | exact Below.refl _ _ | apply pw_below_drewN | apply below_drew1)⟩
    | true =>
      have HA := Aside0.mk ha
      rw [ha] at h
      simp only [Bool.true_and, decide_eq_false_iff_not] at h
      clear ha
      by_cases c1 : a1 < 1
      · have d1 : decide (a1 < 1) = true := decide_eq_true c1
        clear h c1
        go_enter Try.func25, Try.ntmps25
        go_wp2_with (first
          | (go_at_call 35; (with_reducible refine (voice_areSamples.calls A0 c0 l0 _ _ HR0.out HC0.out (voice_areSamples.vin HA.out)).mono ?_); rintro e w' ⟨rfl, ⟨nd, rfl⟩⟩))
        go_ret2
        exact ⟨.slice none 0 0, rfl, Kd.R_nil _ _ _ _ _, by repeat (first | exact Below.refl _ _ | apply pw_below_drewN | apply below_drew1)⟩
      · have d1 : decide (a1 < 1) = false := decide_eq_false c1
        have d2 : decide (1000000 < a1) = true := decide_eq_true (by omega)
        clear h c1
        go_enter Try.func25, Try.ntmps25
        go_wp2_with (first
          | (go_at_call 35; (with_reducible refine (voice_areSamples.calls A0 c0 l0 _ _ HR0.out HC0.out (voice_areSamples.vin HA.out)).mono ?_); rintro e w' ⟨rfl, ⟨nd, rfl⟩⟩))
        go_ret2
        exact ⟨.slice none 0 0, rfl, Kd.R_nil _ _ _ _ _, by repeat (first | exact Below.refl _ _ | apply pw_below_drewN | apply below_drew1)⟩
  · unfold wOk at h
    simp only [Bool.and_eq_true, decide_eq_true_eq] at h
    obtain ⟨ha, hr1, hr2⟩ := h
    have HA := Aside0.mk ha
    clear ha
    have d1 : decide (a1 < 1) = false := decide_eq_false (by omega)
    have d2 : decide (1000000 < a1) = false := decide_eq_false (by omega)
    have d3 : decide (80000 < (l0.length : Int)) = true := decide_eq_true (by omega)
    have d4 : decide (80000 < l0.length) = true := decide_eq_true hl
    clear hr1 hr2 hl
    go_enter Try.func25, Try.ntmps25
    go_wp2_with (first
      | (go_at_call 35; (with_reducible refine (voice_areSamples.calls A0 c0 l0 _ _ HR0.out HC0.out (voice_areSamples.vin HA.out)).mono ?_); rintro e w' ⟨rfl, ⟨nd, rfl⟩⟩))
    go_ret2
    exact ⟨.slice none 0 0, rfl, Kd.R_nil _ _ _ _ _, by repeat (first | exact Below.refl _ _ | apply pw_below_drewN | apply below_drew1)⟩
theorem voice_Wave.calls (A0 : Option Addr) (c0 : Nat) (l0 : List Int) (a1 : Int) (r1 : List Int) (r2 : Int) (w : World) (hr0 : Kd.C (Kd.int .i64) w A0 l0.length l0) (hc0 : l0.length ≤ c0) (h : voice_Wave.f l0 a1 = some (r1, r2)) :
    Calls Try.prog 25 #[.slice A0 l0.length c0, .int .i64 a1] w fun e w' => ∃ v0_ : Value, e = .returned (.tuple #[v0_, .int .i64 r2]) ∧ Kd.R (Kd.int .u8) 5 w' w.heap.size (fun _ => True) v0_ r1 ∧ Below w.heap.size w w' := by
  unfold voice_Wave.f at h
  cases hv : wOk l0 a1 with
  | false =>
    rw [if_neg (by rw [hv]; decide)] at h
    simp only [Option.some.injEq, Prod.mk.injEq] at h
    obtain ⟨rfl, rfl⟩ := h
    exact voice_Wave.fails A0 c0 l0 a1 1 w hr0 hc0 (.inl ⟨hv, rfl⟩)
  | true =>
    rw [if_pos hv] at h
    by_cases hl : l0.length ≤ 80000
    · rw [if_pos hl] at h
      simp only [Option.some.injEq, Prod.mk.injEq] at h
      obtain ⟨rfl, rfl⟩ := h
      exact voice_Wave.does A0 c0 l0 a1 w hr0 hc0 hv hl
    · rw [if_neg hl] at h
      simp only [Option.some.injEq, Prod.mk.injEq] at h
      obtain ⟨rfl, rfl⟩ := h
      exact voice_Wave.fails A0 c0 l0 a1 3 w hr0 hc0 (.inr ⟨hv, by omega, rfl⟩)

/-! ### bytes_Equal: function 40 -/
def bytes_Equal.f (l0 : List Int) (l1 : List Int) : Option (Bool) := some ((strOfNums l0).toList == (strOfNums l1).toList)
set_option maxHeartbeats 8000000 in
set_option maxRecDepth 100000 in
theorem bytes_Equal.calls (A0 : Option Addr) (c0 : Nat) (l0 : List Int) (A1 : Option Addr) (c1 : Nat) (l1 : List Int) (r : Bool) (w : World) (hr0 : Kd.C (Kd.int .u8) w A0 l0.length l0) (hc0 : l0.length ≤ c0) (hr1 : Kd.C (Kd.int .u8) w A1 l1.length l1) (hc1 : l1.length ≤ c1) (h : bytes_Equal.f l0 l1 = some r) :
    Calls Try.prog 40 #[.slice A0 l0.length c0, .slice A1 l1.length c1] w fun e w' => e = .returned (.bool r) ∧ Drawn0 w w' := by
  have HR0 := Aside0.mk hr0
  have HC0 := Aside0.mk hc0
  clear hr0 hc0
  have HR1 := Aside0.mk hr1
  have HC1 := Aside0.mk hc1
  clear hr1 hc1
  have H : (some ((strOfNums l0).toList == (strOfNums l1).toList)) = some r := h
  clear h
  obtain rfl := Option.some.inj H
  have hcv3 := Kd.C_string (P := Try.prog) (A := A0) (c := c0) Try.underlying37 Try.underlying5 Try.underlying9 HR0.out
  have hcv4 := Kd.C_string (P := Try.prog) (A := A1) (c := c1) Try.underlying37 Try.underlying5 Try.underlying9 HR1.out
  go_enter Try.func40, Try.ntmps40
  go_wp2
  go_ret
  exact ⟨by first | rfl | (simp; done) | (simp [*]; done), by repeat (first | exact Drawn0.refl _ | apply Drawn0.step)⟩

/-! ### voice_Unwave: function 23 -/
mutual
def voice_Unwave.j0 : Nat → List Int → Bool → Option (List Int × Int × Int)
  | 0, _, _ => none
  | k + 1, x0, x21 => if x21 = true then (some (([] : List Int), 0, 11)) else (voice_Unwave.l0 k x0 ([] : List Int) 44)
def voice_Unwave.l0 : Nat → List Int → List Int → Int → Option (List Int × Int × Int)
  | 0, _, _, _ => none
  | k + 1, x0, x5, x6 => if x6 < (x0.length : Int) then (if 0 ≤ x6 then (if x6 ≤ (wrap64 (x6 + 2)) then (if (wrap64 (x6 + 2)) ≤ (x0.length : Int) then ((wide_Get.f k ((x0.take ((wrap64 (x6 + 2)) : Int).toNat).drop (x6 : Int).toNat) true).bind fun t202 => (if x5.length < 17592186044416 then (voice_Unwave.l0 k x0 (x5 ++ [wrap64 (IntKind.i16.wrap (t202))]) (wrap64 (x6 + 2))) else (none))) else (none)) else (none)) else (none)) else (if 24 ≤ 28 then (if 28 ≤ (x0.length : Int) then ((wide_Get.f k ((x0.take 28).drop 24) true).bind fun t207 => ((voice_Wave.f x5 (wrap64 (t207))).bind fun bt208 => (if bt208.2 = 0 then ((bytes_Equal.f bt208.1 x0).bind fun t212 => (if t212 = true then (some (x5, wrap64 (t207), 0)) else (some (([] : List Int), 0, 11)))) else (some (([] : List Int), 0, 11))))) else (none)) else (none))
end
def voice_Unwave.f (k : Nat) (l0 : List Int) : Option (List Int × Int × Int) := if (l0.length : Int) > 160044 then (some (([] : List Int), 0, 3)) else (if (l0.length : Int) < 44 then (voice_Unwave.j0 k l0 true) else (voice_Unwave.j0 k l0 (((l0.length : Int) % 2) != 0)))
theorem voice_Unwave.mono_l : ∀ k, (∀ y0 y1, LeO (voice_Unwave.j0 k y0 y1) (voice_Unwave.j0 (k + 1) y0 y1)) ∧ (∀ y0 y1 y2, LeO (voice_Unwave.l0 k y0 y1 y2) (voice_Unwave.l0 (k + 1) y0 y1 y2))
  | 0 => ⟨fun _ _ r h => by simp [voice_Unwave.j0] at h, fun _ _ _ r h => by simp [voice_Unwave.l0] at h⟩
  | k + 1 => by
    obtain ⟨ih0, ih1⟩ := voice_Unwave.mono_l k
    refine ⟨?_, ?_⟩
    · intro y0 y1
      unfold voice_Unwave.j0
      repeat' first
      | (with_reducible exact ih0 _ _)
      | (with_reducible exact ih1 _ _ _)
      | (with_reducible exact wide_Get.mono _ _ _)
      | (with_reducible exact LeO.refl _)
      | (with_reducible exact LeO.none _)
      | (with_reducible refine LeO.ite ?_ ?_)
      | (with_reducible refine LeO.bind ?_ (fun _ => ?_))
      | exact ih0 _ _
      | exact ih1 _ _ _
      | exact wide_Get.mono _ _ _
      | exact LeO.none _
      | refine LeO.ite ?_ ?_
      | refine LeO.bind ?_ (fun _ => ?_)
    · intro y0 y1 y2
      unfold voice_Unwave.l0
      repeat' first
      | (with_reducible exact ih0 _ _)
      | (with_reducible exact ih1 _ _ _)
      | (with_reducible exact wide_Get.mono _ _ _)
      | (with_reducible exact LeO.refl _)
      | (with_reducible exact LeO.none _)
      | (with_reducible refine LeO.ite ?_ ?_)
      | (with_reducible refine LeO.bind ?_ (fun _ => ?_))
      | exact ih0 _ _
      | exact ih1 _ _ _
      | exact wide_Get.mono _ _ _
      | exact LeO.none _
      | refine LeO.ite ?_ ?_
      | refine LeO.bind ?_ (fun _ => ?_)
theorem voice_Unwave.mono : ∀ a0 k, LeO (voice_Unwave.f k a0) (voice_Unwave.f (k + 1) a0) := by
  intro a0 k
  obtain ⟨ih0, ih1⟩ := voice_Unwave.mono_l k
  unfold voice_Unwave.f
  repeat' first
      | (with_reducible exact ih0 _ _)
      | (with_reducible exact ih1 _ _ _)
      | (with_reducible exact wide_Get.mono _ _ _)
      | (with_reducible exact LeO.refl _)
      | (with_reducible exact LeO.none _)
      | (with_reducible refine LeO.ite ?_ ?_)
      | (with_reducible refine LeO.bind ?_ (fun _ => ?_))
      | exact ih0 _ _
      | exact ih1 _ _ _
      | exact wide_Get.mono _ _ _
      | exact LeO.none _
      | refine LeO.ite ?_ ?_
      | refine LeO.bind ?_ (fun _ => ?_)
set_option maxHeartbeats 8000000 in
set_option maxRecDepth 100000 in
theorem voice_Unwave.calls (k : Nat) (A0 : Option Addr) (c0 : Nat) (l0 : List Int) (r1 : List Int) (r2 : Int) (r3 : Int) (w : World) (hr0 : Kd.C (Kd.int .u8) w A0 l0.length l0) (hc0 : l0.length ≤ c0) (h : voice_Unwave.f k l0 = some (r1, r2, r3)) :
    Calls Try.prog 23 #[.slice A0 l0.length c0] w fun e w' => ∃ v0_ : Value, e = .returned (.tuple #[v0_, .int .i64 r2, .int .i64 r3]) ∧ Kd.R (Kd.int .i64) 3 w' w.heap.size (fun _ => True) v0_ r1 ∧ Below w.heap.size w w' := by
  have HR0 := Aside0.mk hr0
  have HC0 := Aside0.mk hc0
  clear hr0 hc0
  have HB := Aside0.mk (Below.refl w.heap.size w)
  have H : (if (l0.length : Int) > 160044 then (some (([] : List Int), 0, 3)) else (if (l0.length : Int) < 44 then (voice_Unwave.j0 k l0 true) else (voice_Unwave.j0 k l0 (((l0.length : Int) % 2) != 0)))) = some (r1, r2, r3) := h
  clear h
  by_cases c2 : (l0.length : Int) > 160044
  · rw [if_pos c2] at H
    have c2b0 : decide (160044 < (l0.length : Int)) = true := decide_eq_true c2
    have c2b1 : decide (160044 < l0.length) = true := decide_eq_true (by omega)
    clear c2
    simp only [Option.some.injEq, Prod.mk.injEq] at H
    obtain ⟨rfl, rfl, rfl⟩ := H
    go_enter Try.func23, Try.ntmps23
    go_wp2
    go_ret3
    exact ⟨_, by first | rfl | (simp [errW_none, errW_some] <;> rfl) | (simp [*, errW_none, errW_some] <;> rfl), by first | exact Kd.R_nil _ _ _ _ _ | exact Kd.N_nil _ _ _ _ _ | exact Kd.V_nil _ _ _ _ _ | exact Kd.Q_nil _ _ _ _ _ | exact Kd.S_nil _ _ _ _ _, by repeat (first | (with_reducible first | exact HB.out | apply below_alloc | apply pw_below_drewN | apply below_drew1) | exact HB.out)⟩
  · rw [if_neg c2] at H
    have c2b0 : decide (160044 < (l0.length : Int)) = false := decide_eq_false c2
    have c2b1 : decide (160044 < l0.length) = false := decide_eq_false (by omega)
    clear c2
    have HC3 := Aside0.mk H
    clear H
    go_enter Try.func23, Try.ntmps23
    go_upto_region 3 with (fail)
    go_cut [21] (fun v21 wc => ∃ (kq : Nat) (x21_2 : Bool), v21 = .bool x21_2 ∧ Aside0 (voice_Unwave.j0 kq l0 x21_2 = some (r1, r2, r3)) ∧ Aside0 (kq ≤ k) ∧ Aside0 (Below w.heap.size w wc))
    case first =>
      have H := HC3.out
      clear HC3
      by_cases c4 : (l0.length : Int) < 44
      · rw [if_pos c4] at H
        have c4b0 : decide ((l0.length : Int) < 44) = true := decide_eq_true c4
        have c4b1 : decide (l0.length < 44) = true := decide_eq_true (by omega)
        clear c4
        (first | rw [c4b0] | (simp only [i64_w, i32_w]; rw [c4b0]) | skip)
        have H' := Aside0.mk H
        clear H
        go_wp2
        go_meet
        case rel => exact ⟨_, (true), (by first | rfl | (simp; done) | (simp [*]; done)), H', ⟨by first | omega | exact Nat.le_refl _⟩, ⟨by repeat (first | (with_reducible first | exact HB.out | apply below_alloc | apply pw_below_drewN | apply below_drew1) | exact HB.out)⟩⟩
      · rw [if_neg c4] at H
        have c4b0 : decide ((l0.length : Int) < 44) = false := decide_eq_false c4
        have c4b1 : decide (l0.length < 44) = false := decide_eq_false (by omega)
        clear c4
        (first | rw [c4b0] | (simp only [i64_w, i32_w]; rw [c4b0]) | skip)
        have H' := Aside0.mk H
        clear H
        go_wp2
        go_meet
        case rel => exact ⟨_, ((((l0.length : Int) % 2) != 0)), (by first | rfl | (simp; done) | (simp [*]; done)), H', ⟨by first | omega | exact Nat.le_refl _⟩, ⟨by repeat (first | (with_reducible first | exact HB.out | apply below_alloc | apply pw_below_drewN | apply below_drew1) | exact HB.out)⟩⟩
    case rest =>
      clear HC3
      try clear c2
      try clear c2b0
      try clear c2b1
      try clear p2
      try clear c4
      try clear c4b0
      try clear c4b1
      obtain ⟨kq, x21_2, rfl, HA, HJ2, HB⟩ := hcut
      cases kq with
      | zero => exact absurd HA.out (by simp [voice_Unwave.j0])
      | succ kj2 =>
        have H := HA.out
        clear HA
        simp only [voice_Unwave.j0] at H
        by_cases c5 : x21_2 = true
        · subst c5
          have H1 : (some (([] : List Int), 0, 11)) = some (r1, r2, r3) := by rw [if_pos rfl] at H; exact H
          clear H
          have H := H1
          clear H1
          simp only [Option.some.injEq, Prod.mk.injEq] at H
          obtain ⟨rfl, rfl, rfl⟩ := H
          go_wp2
          go_ret3
          exact ⟨_, by first | rfl | (simp [errW_none, errW_some] <;> rfl) | (simp [*, errW_none, errW_some] <;> rfl), by first | exact Kd.R_nil _ _ _ _ _ | exact Kd.N_nil _ _ _ _ _ | exact Kd.V_nil _ _ _ _ _ | exact Kd.Q_nil _ _ _ _ _ | exact Kd.S_nil _ _ _ _ _, by repeat (first | (with_reducible first | exact HB.out | apply below_alloc | apply pw_below_drewN | apply below_drew1) | exact HB.out)⟩
        · replace c5 := Bool.eq_false_iff.mpr c5
          subst c5
          have H1 : (voice_Unwave.l0 kj2 l0 ([] : List Int) 44) = some (r1, r2, r3) := by rw [if_neg (show ¬ (false = true) by decide)] at H; exact H
          clear H
          have H := H1
          clear H1
          have H' := Aside0.mk H
          clear H
          go_wp2
          go_loopg [5, 6] kj2 (fun kq v5 v6 w' => ∃ (x5_2 : List Int) (x6_2 : Int), v6 = .int .i64 x6_2 ∧ Aside0 (voice_Unwave.l0 kq l0 x5_2 x6_2 = some (r1, r2, r3)) ∧ Aside0 (kq ≤ kj2) ∧ Aside0 (Kd.R (Kd.int .i64) 3 w' w.heap.size (fun _ => True) v5 x5_2) ∧ Aside0 (Below w.heap.size w w'))
          case atStart => exact ⟨(([] : List Int)), (44), (by first | rfl | (simp; done) | (simp [*]; done)), H', ⟨Nat.le_refl _⟩, ⟨by first | exact Kd.R_nil _ _ _ _ _ | exact Kd.N_nil _ _ _ _ _ | exact Kd.V_nil _ _ _ _ _ | exact Kd.Q_nil _ _ _ _ _ | exact Kd.S_nil _ _ _ _ _⟩, ⟨by repeat (first | (with_reducible first | exact HB.out | apply below_alloc | apply pw_below_drewN | apply below_drew1) | exact HB.out)⟩⟩
          case round =>
            clear H'
            try clear c2
            try clear c2b0
            try clear c2b1
            try clear p2
            try clear c4
            try clear c4b0
            try clear c4b1
            try clear c5
            try clear p2
            obtain ⟨x5_2, x6_2, rfl, HA, HK2, HO_5, HB⟩ := hrel
            cases gk with
            | zero => exact absurd HA.out (by simp [voice_Unwave.l0])
            | succ k2 =>
              have H := HA.out
              clear HA
              simp only [voice_Unwave.l0] at H
              by_cases c6 : x6_2 < (l0.length : Int)
              · rw [if_pos c6] at H
                have c6b0 : decide (x6_2 < (l0.length : Int)) = true := decide_eq_true c6
                clear c6
                by_cases c7 : 0 ≤ x6_2
                · rw [if_pos c7] at H
                  have c7b0 := eq_true c7
                  have c7b1 : decide (0 ≤ x6_2) = true := decide_eq_true c7
                  clear c7
                  by_cases c8 : x6_2 ≤ (wrap64 (x6_2 + 2))
                  · rw [if_pos c8] at H
                    have c8b0 := eq_true c8
                    have c8b1 : decide (x6_2 ≤ (wrap64 (x6_2 + 2))) = true := decide_eq_true c8
                    by_cases c9 : (wrap64 (x6_2 + 2)) ≤ (l0.length : Int)
                    · rw [if_pos c9] at H
                      have c9b0 := eq_true c9
                      have c9b1 : decide ((wrap64 (x6_2 + 2)) ≤ (l0.length : Int)) = true := decide_eq_true c9
                      replace H := Option.bind_eq_some_iff.mp H
                      obtain ⟨t202, A100, H⟩ := H
                      replace H : (if x5_2.length < 17592186044416 then (voice_Unwave.l0 k2 l0 (x5_2 ++ [wrap64 (IntKind.i16.wrap (t202))]) (wrap64 (x6_2 + 2))) else (none)) = some (r1, r2, r3) := H
                      have A10 := Aside0.mk A100
                      clear A100
                      by_cases c11 : x5_2.length < 17592186044416
                      · rw [if_pos c11] at H
                        have LMc11 := Aside0.mk c11
                        clear c11
                        obtain ⟨y203, hy203⟩ : ∃ y_ : List Int, y_ = (x5_2 ++ [wrap64 (IntKind.i16.wrap (t202))]) := ⟨_, rfl⟩
                        replace H : (voice_Unwave.l0 k2 l0 y203 (wrap64 (x6_2 + 2))) = some (r1, r2, r3) := by first | (rw [hy203]; with_reducible exact H) | (have H2_ := (Option.bind_some _ _).symm.trans H; rw [hy203]; with_reducible exact H2_) | (have H2_ := (Option.bind_some _ _).symm.trans H; with_reducible exact H2_) | with_reducible exact H | (rw [hy203]; exact H) | exact H
                        have Ny203 := Aside0.mk hy203
                        clear hy203
                        have H' := Aside0.mk H
                        clear H
                        obtain ⟨i012, hi012, _, hsz12, _⟩ := info_parts info5
                        obtain ⟨A12, hcut12, hA12, hC12⟩ := print_mid_of (P := Try.prog) (Value.int .u8) 0 37 5 .i64 .i64 Try.underlying37 hi012 hsz12 A0 c0 l0 x6_2 (wrap64 (x6_2 + 2)) (of_decide_eq_true (by first | (with_reducible assumption) | assumption)) (by first | omega | exact of_decide_eq_true (by first | (with_reducible assumption) | assumption)) (of_decide_eq_true (by first | (with_reducible assumption) | assumption)) HC0.out
                        have HR201 := Aside0.mk (Kd.C_of_reads (h1 := fun _ => rfl) (hA12 _ (Kd.reads_of_C HR0.out)))
                        have HC201 := Aside0.mk hC12
                        clear hA12 hC12 hi012 hsz12
                        go_wp2_with (first | ((with_reducible refine gate_callee (f := 39) rfl ?_); refine goesL_ (some 34) rfl rfl Try.func39 (by kernel_rfl) rfl #[.slice A12 ((l0.take ((wrap64 (x6_2 + 2)) : Int).toNat).drop (x6_2 : Int).toNat).length (c0 - x6_2.toNat), .bool true] rfl (by (try simp only [List.map_toArray, List.map_cons, List.map_nil]); first | done | (rw [show ((l0.take ((wrap64 (x6_2 + 2)) : Int).toNat).drop (x6_2 : Int).toNat).length = ((wrap64 (x6_2 + 2)).toNat - x6_2.toNat) from (by rw [List.length_drop, List.length_take]; have h_ : ((wrap64 (x6_2 + 2)) : Int) ≤ (l0.length : Int) := of_decide_eq_true (by first | (with_reducible assumption) | assumption); omega)] <;> rfl) | rfl | (simp only [List.length_drop, List.length_take]; rfl)) ?_; (with_reducible refine (wide_Get.calls k2 _ _ ((l0.take ((wrap64 (x6_2 + 2)) : Int).toNat).drop (x6_2 : Int).toNat) true t202 _ ?side1 ?side2 A10.out).mono ?_); (case side1 => repeat (first | exact (Kd.C_below HR201.out HB.out) | (with_reducible refine Kd.C_alloc ?_ _) | (with_reducible refine Kd.C_drewN ?_ _) | (with_reducible refine Kd.C_drew ?_))); (case side2 => exact HC201.out); rintro e w' ⟨rfl, ⟨nd, rfl⟩⟩; refine ⟨_, rfl, ?_⟩) | ((with_reducible refine gate_builtin (b := .append) (xs := #[.tmp 28, .tmp 37]) rfl ?_); (try (refine gate_guard (by rfl) ?_; dsimp only)); at_builtin; refine Kd.R_append (Kd.int .i64) (w0 := w) w.heap.size rfl (.tmp 28) (.tmp 37) 22 3 (.int .i64 0) 8 rfl Try.underlying22 info3 rfl (by decide) (by omega) u5 x5_2 (wrap64 (IntKind.i16.wrap (t202))) [.int .i64 (wrap64 (IntKind.i16.wrap (t202)))] (fun _ => True) (fun _ => False) rfl rfl ?aP (fun _ hk => hk.elim) ?aF ?aO ?aB ?aS ?aL ?_; (case aP => exact rfl); (case aB => exact (by repeat (first | (with_reducible first | exact HB.out | apply below_alloc | apply pw_below_drewN | apply below_drew1) | exact HB.out))); (case aF => exact (fun _ _ => trivial)); (case aO => exact (by (with_reducible repeat (first | apply Kd.R_alloc | apply Kd.R_drewN | apply Kd.R_drew)); exact HO_5.out)); (case aS => exact (below_size (by repeat (first | (with_reducible first | exact HB.out | apply below_alloc | apply pw_below_drewN | apply below_drew1) | exact HB.out)))); (case aL => have := LMc11.out; omega); intro v204 w13 ho hb hg hat; rw [← Ny203.out] at ho; have n0_ := Aside0.mk (hb); have n1_ := Aside0.mk (ho); clear HB; clear HO_5; have HB := n0_; have HO205 := n1_; clear n0_ n1_; clear ho hb hg hat))
                        go_roundg k2
                        case measure => have := HJ2.out; have := HK2.out; omega
                        case rel => exact ⟨(y203), (wrap64 (x6_2 + 2)), (by first | rfl | (simp; done) | (simp [*]; done)), H', ⟨by have := HJ2.out; have := HK2.out; omega⟩, ⟨by (with_reducible repeat (first | apply Kd.R_alloc | apply Kd.R_drewN | apply Kd.R_drew)); exact HO205.out⟩, ⟨by repeat (first | (with_reducible first | exact HB.out | apply below_alloc | apply pw_below_drewN | apply below_drew1) | exact HB.out)⟩⟩
                      · rw [if_neg c11] at H
                        exact absurd H (by simp)
                    · rw [if_neg c9] at H
                      exact absurd H (by simp)
                  · rw [if_neg c8] at H
                    exact absurd H (by simp)
                · rw [if_neg c7] at H
                  exact absurd H (by simp)
              · rw [if_neg c6] at H
                have c6b0 : decide (x6_2 < (l0.length : Int)) = false := decide_eq_false c6
                clear c6
                by_cases c14 : 24 ≤ 28
                · rw [if_pos c14] at H
                  have c14b0 := eq_true c14
                  have c14b1 : decide (24 ≤ 28) = true := decide_eq_true c14
                  clear c14
                  by_cases c15 : 28 ≤ (l0.length : Int)
                  · rw [if_pos c15] at H
                    have c15b0 := eq_true c15
                    have c15b1 : decide (28 ≤ (l0.length : Int)) = true := decide_eq_true c15
                    clear c15
                    replace H := Option.bind_eq_some_iff.mp H
                    obtain ⟨t207, A160, H⟩ := H
                    replace H : ((voice_Wave.f x5_2 (wrap64 (t207))).bind fun bt208 => (if bt208.2 = 0 then ((bytes_Equal.f bt208.1 l0).bind fun t212 => (if t212 = true then (some (x5_2, wrap64 (t207), 0)) else (some (([] : List Int), 0, 11)))) else (some (([] : List Int), 0, 11)))) = some (r1, r2, r3) := H
                    have A16 := Aside0.mk A160
                    clear A160
                    replace H := Option.bind_eq_some_iff.mp H
                    obtain ⟨⟨t208, t209⟩, A170, H⟩ := H
                    replace H : (if t209 = 0 then ((bytes_Equal.f t208 l0).bind fun t212 => (if t212 = true then (some (x5_2, wrap64 (t207), 0)) else (some (([] : List Int), 0, 11)))) else (some (([] : List Int), 0, 11))) = some (r1, r2, r3) := H
                    have A17 := Aside0.mk A170
                    clear A170
                    by_cases c18 : t209 = 0
                    · rw [if_pos c18] at H
                      have c18b0 : (t209 == 0) = true := beq_iff_eq.mpr c18
                      have c18b1 : (t209 != 0) = false := bne_eq_false_iff_eq.mpr c18
                      clear c18
                      replace H := Option.bind_eq_some_iff.mp H
                      obtain ⟨t212, A190, H⟩ := H
                      replace H : (if t212 = true then (some (x5_2, wrap64 (t207), 0)) else (some (([] : List Int), 0, 11))) = some (r1, r2, r3) := H
                      have A19 := Aside0.mk A190
                      clear A190
                      by_cases c20 : t212 = true
                      · subst c20
                        have H1 : (some (x5_2, wrap64 (t207), 0)) = some (r1, r2, r3) := by rw [if_pos rfl] at H; exact H
                        clear H
                        have H := H1
                        clear H1
                        simp only [Option.some.injEq, Prod.mk.injEq] at H
                        obtain ⟨rfl, rfl, rfl⟩ := H
                        obtain ⟨i021, hi021, _, hsz21, _⟩ := info_parts info5
                        obtain ⟨A21, hcut21, hA21, hC21⟩ := print_mid_of (P := Try.prog) (Value.int .u8) 0 37 5 .i64 .i64 Try.underlying37 hi021 hsz21 A0 c0 l0 24 28 (by omega) (by first | omega | exact of_decide_eq_true (by first | (with_reducible assumption) | assumption)) (of_decide_eq_true (by first | (with_reducible assumption) | assumption)) HC0.out
                        have HR206 := Aside0.mk (Kd.C_of_reads (h1 := fun _ => rfl) (hA21 _ (Kd.reads_of_C HR0.out)))
                        have HC206 := Aside0.mk hC21
                        clear hA21 hC21 hi021 hsz21
                        go_wp2_with (first | ((with_reducible refine gate_callee (f := 39) rfl ?_); refine goesL_ (some 41) rfl rfl Try.func39 (by kernel_rfl) rfl #[.slice A21 ((l0.take 28).drop 24).length (c0 - 24), .bool true] rfl (by (try simp only [List.map_toArray, List.map_cons, List.map_nil]); first | done | (rw [show ((l0.take 28).drop 24).length = (28 - 24) from (by rw [List.length_drop, List.length_take]; have h_ : (28 : Int) ≤ (l0.length : Int) := of_decide_eq_true (by first | (with_reducible assumption) | assumption); omega)] <;> rfl) | rfl | (simp only [List.length_drop, List.length_take]; rfl)) ?_; (with_reducible refine (wide_Get.calls k2 _ _ ((l0.take 28).drop 24) true t207 _ ?side1 ?side2 A16.out).mono ?_); (case side1 => repeat (first | exact (Kd.C_below HR206.out HB.out) | (with_reducible refine Kd.C_alloc ?_ _) | (with_reducible refine Kd.C_drewN ?_ _) | (with_reducible refine Kd.C_drew ?_))); (case side2 => exact HC206.out); rintro e w' ⟨rfl, ⟨nd, rfl⟩⟩; refine ⟨_, rfl, ?_⟩; obtain ⟨Ao22, co22, eo22⟩ := Kd.R_slice HO_5.out; subst eo22) | ((with_reducible refine gate_callee (f := 25) rfl ?_); refine goesL_ (some 46) rfl rfl Try.func25 (by kernel_rfl) rfl #[.slice Ao22 x5_2.length co22, .int .i64 (wrap64 (t207))] rfl (by (try simp only [List.map_toArray, List.map_cons, List.map_nil]); first | done | rfl | (simp only [List.length_drop, List.length_take]; rfl)) ?_; (with_reducible refine (voice_Wave.calls _ _ x5_2 (wrap64 (t207)) t208 t209 _ ?side1 ?side2 A17.out).mono ?_); (case side1 => repeat (first | exact (Kd.R_reads' HO_5.out).2.2 | (with_reducible refine Kd.C_alloc ?_ _) | (with_reducible refine Kd.C_drewN ?_ _) | (with_reducible refine Kd.C_drew ?_))); (case side2 => exact (Kd.R_reads' HO_5.out).2.1); rintro e w23 ⟨v210, rfl, ho0, hb⟩; refine ⟨_, rfl, ?_⟩; have n0_ := Aside0.mk (Kd.R_below (by (with_reducible repeat (first | apply Kd.R_alloc | apply Kd.R_drewN | apply Kd.R_drew)); exact HO_5.out) hb); have n1_ := Aside0.mk (Kd.R_lower ho0 (below_size (by repeat (first | (with_reducible first | exact HB.out | apply below_alloc | apply pw_below_drewN | apply below_drew1) | exact HB.out)))); have n2_ := Aside0.mk (below_step (by repeat (first | (with_reducible first | exact HB.out | apply below_alloc | apply pw_below_drewN | apply below_drew1) | exact HB.out)) hb); clear HO_5; clear HB; have HO_5 := n0_; have HO211 := n1_; have HB := n2_; clear n0_ n1_ n2_; (try clear hb); (try clear hb2); (try clear hk); (try clear hi); (try clear ho0); obtain ⟨Ao24, co24, eo24⟩ := Kd.R_slice HO211.out; subst eo24) | (go_at_call 40; (with_reducible refine (bytes_Equal.calls _ _ t208 _ _ l0 true _ ?side1 ?side2 ?side3 ?side4 A19.out).mono ?_); (case side1 => repeat (first | exact (Kd.R_reads' HO211.out).2.2 | (with_reducible refine Kd.C_alloc ?_ _) | (with_reducible refine Kd.C_drewN ?_ _) | (with_reducible refine Kd.C_drew ?_))); (case side2 => exact (Kd.R_reads' HO211.out).2.1); (case side3 => repeat (first | exact (Kd.C_below HR0.out HB.out) | (with_reducible refine Kd.C_alloc ?_ _) | (with_reducible refine Kd.C_drewN ?_ _) | (with_reducible refine Kd.C_drew ?_))); (case side4 => exact HC0.out); rintro e w' ⟨rfl, ⟨nd, rfl⟩⟩))
                        go_ret3
                        exact ⟨_, by first | rfl | (simp [errW_none, errW_some] <;> rfl) | (simp [*, errW_none, errW_some] <;> rfl), by (with_reducible repeat (first | apply Kd.R_alloc | apply Kd.R_drewN | apply Kd.R_drew)); exact HO_5.out, by repeat (first | (with_reducible first | exact HB.out | apply below_alloc | apply pw_below_drewN | apply below_drew1) | exact HB.out)⟩
                      · replace c20 := Bool.eq_false_iff.mpr c20
                        subst c20
                        have H1 : (some (([] : List Int), 0, 11)) = some (r1, r2, r3) := by rw [if_neg (show ¬ (false = true) by decide)] at H; exact H
                        clear H
                        have H := H1
                        clear H1
                        simp only [Option.some.injEq, Prod.mk.injEq] at H
                        obtain ⟨rfl, rfl, rfl⟩ := H
                        obtain ⟨i025, hi025, _, hsz25, _⟩ := info_parts info5
                        obtain ⟨A25, hcut25, hA25, hC25⟩ := print_mid_of (P := Try.prog) (Value.int .u8) 0 37 5 .i64 .i64 Try.underlying37 hi025 hsz25 A0 c0 l0 24 28 (by omega) (by first | omega | exact of_decide_eq_true (by first | (with_reducible assumption) | assumption)) (of_decide_eq_true (by first | (with_reducible assumption) | assumption)) HC0.out
                        have HR206 := Aside0.mk (Kd.C_of_reads (h1 := fun _ => rfl) (hA25 _ (Kd.reads_of_C HR0.out)))
                        have HC206 := Aside0.mk hC25
                        clear hA25 hC25 hi025 hsz25
                        go_wp2_with (first | ((with_reducible refine gate_callee (f := 39) rfl ?_); refine goesL_ (some 41) rfl rfl Try.func39 (by kernel_rfl) rfl #[.slice A25 ((l0.take 28).drop 24).length (c0 - 24), .bool true] rfl (by (try simp only [List.map_toArray, List.map_cons, List.map_nil]); first | done | (rw [show ((l0.take 28).drop 24).length = (28 - 24) from (by rw [List.length_drop, List.length_take]; have h_ : (28 : Int) ≤ (l0.length : Int) := of_decide_eq_true (by first | (with_reducible assumption) | assumption); omega)] <;> rfl) | rfl | (simp only [List.length_drop, List.length_take]; rfl)) ?_; (with_reducible refine (wide_Get.calls k2 _ _ ((l0.take 28).drop 24) true t207 _ ?side1 ?side2 A16.out).mono ?_); (case side1 => repeat (first | exact (Kd.C_below HR206.out HB.out) | (with_reducible refine Kd.C_alloc ?_ _) | (with_reducible refine Kd.C_drewN ?_ _) | (with_reducible refine Kd.C_drew ?_))); (case side2 => exact HC206.out); rintro e w' ⟨rfl, ⟨nd, rfl⟩⟩; refine ⟨_, rfl, ?_⟩; obtain ⟨Ao26, co26, eo26⟩ := Kd.R_slice HO_5.out; subst eo26) | ((with_reducible refine gate_callee (f := 25) rfl ?_); refine goesL_ (some 46) rfl rfl Try.func25 (by kernel_rfl) rfl #[.slice Ao26 x5_2.length co26, .int .i64 (wrap64 (t207))] rfl (by (try simp only [List.map_toArray, List.map_cons, List.map_nil]); first | done | rfl | (simp only [List.length_drop, List.length_take]; rfl)) ?_; (with_reducible refine (voice_Wave.calls _ _ x5_2 (wrap64 (t207)) t208 t209 _ ?side1 ?side2 A17.out).mono ?_); (case side1 => repeat (first | exact (Kd.R_reads' HO_5.out).2.2 | (with_reducible refine Kd.C_alloc ?_ _) | (with_reducible refine Kd.C_drewN ?_ _) | (with_reducible refine Kd.C_drew ?_))); (case side2 => exact (Kd.R_reads' HO_5.out).2.1); rintro e w27 ⟨v210, rfl, ho0, hb⟩; refine ⟨_, rfl, ?_⟩; have n0_ := Aside0.mk (Kd.R_below (by (with_reducible repeat (first | apply Kd.R_alloc | apply Kd.R_drewN | apply Kd.R_drew)); exact HO_5.out) hb); have n1_ := Aside0.mk (Kd.R_lower ho0 (below_size (by repeat (first | (with_reducible first | exact HB.out | apply below_alloc | apply pw_below_drewN | apply below_drew1) | exact HB.out)))); have n2_ := Aside0.mk (below_step (by repeat (first | (with_reducible first | exact HB.out | apply below_alloc | apply pw_below_drewN | apply below_drew1) | exact HB.out)) hb); clear HO_5; clear HB; have HO_5 := n0_; have HO211 := n1_; have HB := n2_; clear n0_ n1_ n2_; (try clear hb); (try clear hb2); (try clear hk); (try clear hi); (try clear ho0); obtain ⟨Ao28, co28, eo28⟩ := Kd.R_slice HO211.out; subst eo28) | (go_at_call 40; (with_reducible refine (bytes_Equal.calls _ _ t208 _ _ l0 false _ ?side1 ?side2 ?side3 ?side4 A19.out).mono ?_); (case side1 => repeat (first | exact (Kd.R_reads' HO211.out).2.2 | (with_reducible refine Kd.C_alloc ?_ _) | (with_reducible refine Kd.C_drewN ?_ _) | (with_reducible refine Kd.C_drew ?_))); (case side2 => exact (Kd.R_reads' HO211.out).2.1); (case side3 => repeat (first | exact (Kd.C_below HR0.out HB.out) | (with_reducible refine Kd.C_alloc ?_ _) | (with_reducible refine Kd.C_drewN ?_ _) | (with_reducible refine Kd.C_drew ?_))); (case side4 => exact HC0.out); rintro e w' ⟨rfl, ⟨nd, rfl⟩⟩))
                        go_ret3
                        exact ⟨_, by first | rfl | (simp [errW_none, errW_some] <;> rfl) | (simp [*, errW_none, errW_some] <;> rfl), by first | exact Kd.R_nil _ _ _ _ _ | exact Kd.N_nil _ _ _ _ _ | exact Kd.V_nil _ _ _ _ _ | exact Kd.Q_nil _ _ _ _ _ | exact Kd.S_nil _ _ _ _ _, by repeat (first | (with_reducible first | exact HB.out | apply below_alloc | apply pw_below_drewN | apply below_drew1) | exact HB.out)⟩
                    · rw [if_neg c18] at H
                      have c18b0 : (t209 == 0) = false := beq_eq_false_iff_ne.mpr c18
                      have c18b1 : (t209 != 0) = true := bne_iff_ne.mpr c18
                      simp only [Option.some.injEq, Prod.mk.injEq] at H
                      obtain ⟨rfl, rfl, rfl⟩ := H
                      obtain ⟨i029, hi029, _, hsz29, _⟩ := info_parts info5
                      obtain ⟨A29, hcut29, hA29, hC29⟩ := print_mid_of (P := Try.prog) (Value.int .u8) 0 37 5 .i64 .i64 Try.underlying37 hi029 hsz29 A0 c0 l0 24 28 (by omega) (by first | omega | exact of_decide_eq_true (by first | (with_reducible assumption) | assumption)) (of_decide_eq_true (by first | (with_reducible assumption) | assumption)) HC0.out
                      have HR206 := Aside0.mk (Kd.C_of_reads (h1 := fun _ => rfl) (hA29 _ (Kd.reads_of_C HR0.out)))
                      have HC206 := Aside0.mk hC29
                      clear hA29 hC29 hi029 hsz29
                      go_wp2_with (first | ((with_reducible refine gate_callee (f := 39) rfl ?_); refine goesL_ (some 41) rfl rfl Try.func39 (by kernel_rfl) rfl #[.slice A29 ((l0.take 28).drop 24).length (c0 - 24), .bool true] rfl (by (try simp only [List.map_toArray, List.map_cons, List.map_nil]); first | done | (rw [show ((l0.take 28).drop 24).length = (28 - 24) from (by rw [List.length_drop, List.length_take]; have h_ : (28 : Int) ≤ (l0.length : Int) := of_decide_eq_true (by first | (with_reducible assumption) | assumption); omega)] <;> rfl) | rfl | (simp only [List.length_drop, List.length_take]; rfl)) ?_; (with_reducible refine (wide_Get.calls k2 _ _ ((l0.take 28).drop 24) true t207 _ ?side1 ?side2 A16.out).mono ?_); (case side1 => repeat (first | exact (Kd.C_below HR206.out HB.out) | (with_reducible refine Kd.C_alloc ?_ _) | (with_reducible refine Kd.C_drewN ?_ _) | (with_reducible refine Kd.C_drew ?_))); (case side2 => exact HC206.out); rintro e w' ⟨rfl, ⟨nd, rfl⟩⟩; refine ⟨_, rfl, ?_⟩; obtain ⟨Ao30, co30, eo30⟩ := Kd.R_slice HO_5.out; subst eo30) | ((with_reducible refine gate_callee (f := 25) rfl ?_); refine goesL_ (some 46) rfl rfl Try.func25 (by kernel_rfl) rfl #[.slice Ao30 x5_2.length co30, .int .i64 (wrap64 (t207))] rfl (by (try simp only [List.map_toArray, List.map_cons, List.map_nil]); first | done | rfl | (simp only [List.length_drop, List.length_take]; rfl)) ?_; (with_reducible refine (voice_Wave.calls _ _ x5_2 (wrap64 (t207)) t208 t209 _ ?side1 ?side2 A17.out).mono ?_); (case side1 => repeat (first | exact (Kd.R_reads' HO_5.out).2.2 | (with_reducible refine Kd.C_alloc ?_ _) | (with_reducible refine Kd.C_drewN ?_ _) | (with_reducible refine Kd.C_drew ?_))); (case side2 => exact (Kd.R_reads' HO_5.out).2.1); rintro e w31 ⟨v210, rfl, ho0, hb⟩; refine ⟨_, rfl, ?_⟩; have n0_ := Aside0.mk (Kd.R_below (by (with_reducible repeat (first | apply Kd.R_alloc | apply Kd.R_drewN | apply Kd.R_drew)); exact HO_5.out) hb); have n1_ := Aside0.mk (Kd.R_lower ho0 (below_size (by repeat (first | (with_reducible first | exact HB.out | apply below_alloc | apply pw_below_drewN | apply below_drew1) | exact HB.out)))); have n2_ := Aside0.mk (below_step (by repeat (first | (with_reducible first | exact HB.out | apply below_alloc | apply pw_below_drewN | apply below_drew1) | exact HB.out)) hb); clear HO_5; clear HB; have HO_5 := n0_; have HO211 := n1_; have HB := n2_; clear n0_ n1_ n2_; (try clear hb); (try clear hb2); (try clear hk); (try clear hi); (try clear ho0)))
                      go_ret3
                      exact ⟨_, by first | rfl | (simp [errW_none, errW_some] <;> rfl) | (simp [*, errW_none, errW_some] <;> rfl), by first | exact Kd.R_nil _ _ _ _ _ | exact Kd.N_nil _ _ _ _ _ | exact Kd.V_nil _ _ _ _ _ | exact Kd.Q_nil _ _ _ _ _ | exact Kd.S_nil _ _ _ _ _, by repeat (first | (with_reducible first | exact HB.out | apply below_alloc | apply pw_below_drewN | apply below_drew1) | exact HB.out)⟩
                  · rw [if_neg c15] at H
                    exact absurd H (by simp)
                · rw [if_neg c14] at H
                  exact absurd H (by simp)

/-! ### wireglassref25_isRate: function 42 -/
def wireglassref25_isRate.f (a0 : Int) : Option (Bool) := if a0 ≥ 1 then (some (decide (a0 ≤ 1000000))) else (some false)
set_option maxHeartbeats 8000000 in
set_option maxRecDepth 100000 in
theorem wireglassref25_isRate.calls (a0 : Int) (r : Bool) (w : World) (h : wireglassref25_isRate.f a0 = some r) :
    Calls Try.prog 42 #[.int .i64 a0] w fun e w' => e = .returned (.bool r) ∧ Drawn0 w w' := by
  have H : (if a0 ≥ 1 then (some (decide (a0 ≤ 1000000))) else (some false)) = some r := h
  clear h
  by_cases c2 : a0 ≥ 1
  · rw [if_pos c2] at H
    have c2b0 : decide (1 ≤ a0) = true := decide_eq_true c2
    clear c2
    obtain rfl := Option.some.inj H
    go_enter Try.func42, Try.ntmps42
    go_wp2
    go_ret
    exact ⟨by first | rfl | (simp; done) | (simp [*]; done), by repeat (first | exact Drawn0.refl _ | apply Drawn0.step)⟩
  · rw [if_neg c2] at H
    have c2b0 : decide (1 ≤ a0) = false := decide_eq_false c2
    clear c2
    obtain rfl := Option.some.inj H
    go_enter Try.func42, Try.ntmps42
    go_wp2
    go_ret
    exact ⟨by first | rfl | (simp; done) | (simp [*]; done), by repeat (first | exact Drawn0.refl _ | apply Drawn0.step)⟩

/-! ### wireglassref25_low: function 43 -/
def wireglassref25_low.l0 : Nat → Int → Int → List Int → Int → Option (List Int)
  | 0, _, _, _, _ => none
  | k + 1, x0, x1, x5, x6 => if x6 < x1 then (if 0 ≤ (wrap64 (8 * x6)) then (if x5.length < 140737488355328 then (wireglassref25_low.l0 k x0 x1 (x5 ++ [(shr .i64 x0 (wrap64 (8 * x6))) % 256]) (wrap64 (x6 + 1))) else (none)) else (none)) else (some x5)
def wireglassref25_low.f (k : Nat) (a0 : Int) (a1 : Int) : Option (List Int) := wireglassref25_low.l0 k a0 a1 ([] : List Int) 0
theorem wireglassref25_low.mono_l : ∀ k, (∀ y0 y1 y2 y3, LeO (wireglassref25_low.l0 k y0 y1 y2 y3) (wireglassref25_low.l0 (k + 1) y0 y1 y2 y3))
  | 0 => fun _ _ _ _ r h => by simp [wireglassref25_low.l0] at h
  | k + 1 => by
    have ih0 := wireglassref25_low.mono_l k
    · intro y0 y1 y2 y3
      unfold wireglassref25_low.l0
      repeat' first
      | (with_reducible exact ih0 _ _ _ _)
      | (with_reducible exact LeO.refl _)
      | (with_reducible exact LeO.none _)
      | (with_reducible refine LeO.ite ?_ ?_)
      | (with_reducible refine LeO.bind ?_ (fun _ => ?_))
      | exact ih0 _ _ _ _
      | exact LeO.none _
      | refine LeO.ite ?_ ?_
      | refine LeO.bind ?_ (fun _ => ?_)
theorem wireglassref25_low.mono : ∀ a0 a1 k, LeO (wireglassref25_low.f k a0 a1) (wireglassref25_low.f (k + 1) a0 a1) := by
  intro a0 a1 k
  have ih0 := wireglassref25_low.mono_l k
  unfold wireglassref25_low.f
  repeat' first
      | (with_reducible exact ih0 _ _ _ _)
      | (with_reducible exact LeO.refl _)
      | (with_reducible exact LeO.none _)
      | (with_reducible refine LeO.ite ?_ ?_)
      | (with_reducible refine LeO.bind ?_ (fun _ => ?_))
      | exact ih0 _ _ _ _
      | exact LeO.none _
      | refine LeO.ite ?_ ?_
      | refine LeO.bind ?_ (fun _ => ?_)
set_option maxHeartbeats 8000000 in
set_option maxRecDepth 100000 in
theorem wireglassref25_low.calls (k : Nat) (a0 : Int) (a1 : Int) (r : List Int) (w : World) (h : wireglassref25_low.f k a0 a1 = some r) :
    Calls Try.prog 43 #[.int .i64 a0, .int .i64 a1] w fun e w' => ∃ v0_ : Value, e = .returned (v0_) ∧ Kd.R (Kd.int .u8) 5 w' w.heap.size (fun _ => True) v0_ r ∧ Below w.heap.size w w' := by
  have HB := Aside0.mk (Below.refl w.heap.size w)
  have H : (wireglassref25_low.l0 k a0 a1 ([] : List Int) 0) = some r := h
  clear h
  have H' := Aside0.mk H
  clear H
  go_enter Try.func43, Try.ntmps43
  go_wp2
  go_loopg [5, 6] k (fun kq v5 v6 w' => ∃ (x5_1 : List Int) (x6_1 : Int), v6 = .int .i64 x6_1 ∧ Aside0 (wireglassref25_low.l0 kq a0 a1 x5_1 x6_1 = some r) ∧ Aside0 (kq ≤ k) ∧ Aside0 (Kd.R (Kd.int .u8) 5 w' w.heap.size (fun _ => True) v5 x5_1) ∧ Aside0 (Below w.heap.size w w'))
  case atStart => exact ⟨(([] : List Int)), (0), (by first | rfl | (simp; done) | (simp [*]; done)), H', ⟨Nat.le_refl _⟩, ⟨by first | exact Kd.R_nil _ _ _ _ _ | exact Kd.N_nil _ _ _ _ _ | exact Kd.V_nil _ _ _ _ _ | exact Kd.Q_nil _ _ _ _ _ | exact Kd.S_nil _ _ _ _ _⟩, ⟨by repeat (first | (with_reducible first | exact HB.out | apply below_alloc | apply pw_below_drewN | apply below_drew1) | exact HB.out)⟩⟩
  case round =>
    clear H'
    try clear p2
    obtain ⟨x5_1, x6_1, rfl, HA, HK1, HO_5, HB⟩ := hrel
    cases gk with
    | zero => exact absurd HA.out (by simp [wireglassref25_low.l0])
    | succ k1 =>
      have H := HA.out
      clear HA
      simp only [wireglassref25_low.l0] at H
      by_cases c3 : x6_1 < a1
      · rw [if_pos c3] at H
        have c3b0 : decide (x6_1 < a1) = true := decide_eq_true c3
        clear c3
        obtain ⟨ji4, hji4⟩ : ∃ j_ : Int, (wrap64 (8 * x6_1)) = j_ := ⟨_, rfl⟩
        replace H : (if 0 ≤ (ji4) then (if x5_1.length < 140737488355328 then (wireglassref25_low.l0 k1 a0 a1 (x5_1 ++ [(shr .i64 a0 (ji4)) % 256]) (wrap64 (x6_1 + 1))) else (none)) else (none)) = some r := by first | (rw [hji4] at H; exact H) | (simp only [hji4] at H ⊢; exact H)
        have hji4w : (IntKind.i64.wrap (8 * x6_1)) = ji4 := (i64_w _).trans hji4
        by_cases c5 : 0 ≤ (ji4)
        · rw [if_pos c5] at H
          have c5b0 := eq_true c5
          have c5b1 : decide (0 ≤ (ji4)) = true := decide_eq_true c5
          clear c5
          obtain ⟨ji6, hji6⟩ : ∃ j_ : Int, (shr .i64 a0 (ji4)) = j_ := ⟨_, rfl⟩
          replace H : (if x5_1.length < 140737488355328 then (wireglassref25_low.l0 k1 a0 a1 (x5_1 ++ [(ji6) % 256]) (wrap64 (x6_1 + 1))) else (none)) = some r := by first | (rw [hji6] at H; exact H) | (simp only [hji6] at H ⊢; exact H)
          have hji6_ : (a0 / 2 ^ min (ji4).toNat 64) = ji6 := hji6
          have hji6z : (ji4) ≤ 64 → (a0 / 2 ^ (ji4).toNat) = ji6 := shr_small hji6
          by_cases c7 : x5_1.length < 140737488355328
          · rw [if_pos c7] at H
            have LMc7 := Aside0.mk c7
            clear c7
            obtain ⟨y213, hy213⟩ : ∃ y_ : List Int, y_ = (x5_1 ++ [(ji6) % 256]) := ⟨_, rfl⟩
            replace H : (wireglassref25_low.l0 k1 a0 a1 y213 (wrap64 (x6_1 + 1))) = some r := by first | (rw [hy213]; with_reducible exact H) | (have H2_ := (Option.bind_some _ _).symm.trans H; rw [hy213]; with_reducible exact H2_) | (have H2_ := (Option.bind_some _ _).symm.trans H; with_reducible exact H2_) | with_reducible exact H | (rw [hy213]; exact H) | exact H
            have Ny213 := Aside0.mk hy213
            clear hy213
            have H' := Aside0.mk H
            clear H
            go_wp2_with (first | ((with_reducible refine gate_builtin (b := .append) (xs := #[.tmp 12, .tmp 18]) rfl ?_); at_builtin; refine Kd.R_append (Kd.int .u8) (w0 := w) w.heap.size rfl (.tmp 12) (.tmp 18) 37 5 (.int .u8 0) 1 rfl Try.underlying37 info5 rfl (by decide) (by omega) u5 x5_1 ((ji6) % 256) [.int .u8 ((ji6) % 256)] (fun _ => True) (fun _ => False) rfl rfl ?aP (fun _ hk => hk.elim) ?aF ?aO ?aB ?aS ?aL ?_; (case aP => exact rfl); (case aB => exact (by repeat (first | (with_reducible first | exact HB.out | apply below_alloc | apply pw_below_drewN | apply below_drew1) | exact HB.out))); (case aF => exact (fun _ _ => trivial)); (case aO => exact (by (with_reducible repeat (first | apply Kd.R_alloc | apply Kd.R_drewN | apply Kd.R_drew)); exact HO_5.out)); (case aS => exact (below_size (by repeat (first | (with_reducible first | exact HB.out | apply below_alloc | apply pw_below_drewN | apply below_drew1) | exact HB.out)))); (case aL => have := LMc7.out; omega); intro v214 w8 ho hb hg hat; rw [← Ny213.out] at ho; have n0_ := Aside0.mk (hb); have n1_ := Aside0.mk (ho); clear HB; clear HO_5; have HB := n0_; have HO215 := n1_; clear n0_ n1_; clear ho hb hg hat))
            go_roundg k1
            case measure => have := HK1.out; omega
            case rel => exact ⟨(y213), (wrap64 (x6_1 + 1)), (by first | rfl | (simp; done) | (simp [*]; done)), H', ⟨by have := HK1.out; omega⟩, ⟨by (with_reducible repeat (first | apply Kd.R_alloc | apply Kd.R_drewN | apply Kd.R_drew)); exact HO215.out⟩, ⟨by repeat (first | (with_reducible first | exact HB.out | apply below_alloc | apply pw_below_drewN | apply below_drew1) | exact HB.out)⟩⟩
          · rw [if_neg c7] at H
            exact absurd H (by simp)
        · rw [if_neg c5] at H
          exact absurd H (by simp)
      · rw [if_neg c3] at H
        have c3b0 : decide (x6_1 < a1) = false := decide_eq_false c3
        clear c3
        obtain rfl := Option.some.inj H
        go_wp2
        go_ret
        exact ⟨_, by first | rfl | (simp [errW_none, errW_some] <;> rfl) | (simp [*, errW_none, errW_some] <;> rfl), by (with_reducible repeat (first | apply Kd.R_alloc | apply Kd.R_drewN | apply Kd.R_drew)); exact HO_5.out, by repeat (first | (with_reducible first | exact HB.out | apply below_alloc | apply pw_below_drewN | apply below_drew1) | exact HB.out)⟩

end Go.Proofs.Ytphkkdjinehhoaa.G
