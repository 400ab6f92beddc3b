/- Laid by a program of this repo over the translation: each Go function as a plain Lean function with the proof that the call comes to its answers, or a statement's row out of these; conditions: the hypotheses of each theorem. -/
import Derived.Test.YtbdakgkjomanlaaDoorDx0
import Derived.Test.YtbdakgkjomanlaaDoorDx1
namespace Go.Proofs.YtbdakgkjomanlaaDoor.D
open Go.RowKit Go.Proofs.YtbdakgkjomanlaaDoorW.PrintWords Go.Proofs.YtbdakgkjomanlaaDoorW.PrintLast Go.Proofs.YtbdakgkjomanlaaDoorW.PrintMore
attribute [local go_sem] max2_int min2_int max_two min_two max_three min_three max_four min_four   -- for this text's walks alone
set_option linter.unusedVariables false
set_option linter.unusedSimpArgs false

/-! ### key_block: function 28 -/
-- EXT rounds=0 making=1
/-- The block's states: ahead of the rounds, within them, and the bytes that come out. -/
def blkKey (l : List Int) (i : Nat) : Int := IntKind.u32.wrap (leN ((l.drop (4 * i)).take 4))
def blkA (l : List Int) : Nat → List Int
  | 0 => [1634760805, 857760878, 2036477234, 1797285236, 0, 0, 0, 0, 0, 0, 0, 0, 0, 0, 0, 0]
  | i + 1 => (blkA l i).set (4 + i) (blkKey l i)
def blkB (l : List Int) (n : Int) (l2 : List Int) : Nat → List Int
  | 0 => (blkA l 8).set 12 (IntKind.u32.wrap n)
  | i + 1 => (blkB l n l2 i).set (13 + i) (blkKey l2 i)
def colsN (xs : List Int) : Nat → List Int
  | 0 => xs
  | i + 1 => Hand.qr (colsN xs i) i (i + 4) (i + 8) (i + 12)
def diagsN (xs : List Int) : Nat → List Int
  | 0 => xs
  | i + 1 => Hand.qr (diagsN xs i) i (4 + (i + 1) % 4) (8 + (i + 2) % 4) (12 + (i + 3) % 4)
def mixN (xs : List Int) : Nat → List Int
  | 0 => xs
  | i + 1 => diagsN (colsN (mixN xs i) 4) 4
def outN (xs ys : List Int) : Nat → List Int
  | 0 => []
  | i + 1 => outN xs ys i ++ lowN 4 (Hand.q1 (xs.getD i 0) (ys.getD i 0))
def isByteK (c : Int) : Bool := decide (0 ≤ c) && decide (c ≤ 255)
def blockOf (l0 : List Int) (a1 : Int) (l2 : List Int) : List Int := outN (mixN (blkB l0 a1 l2 3) 10) (blkB l0 a1 l2 3) 16
def key_block.f (l0 : List Int) (a1 : Int) (l2 : List Int) : Option (List Int) := if (l0.length = 32 ∧ l2.length = 12) ∧ (l0.all isByteK = true ∧ l2.all isByteK = true) then some (blockOf l0 a1 l2) else none
theorem byteL_all {l : List Int} (h : l.all isByteK = true) : ByteL l := by
  intro x hx
  have := List.all_eq_true.1 h x hx
  simpa [isByteK] using this
theorem byteL_cut {l : List Int} (h : ByteL l) (a b : Nat) : ByteL ((l.take a).drop b) := fun x hx => h x (List.mem_of_mem_take (List.mem_of_mem_drop hx))
theorem wrap_w32 (x : Int) : Hand.W32 (IntKind.u32.wrap x) := by rw [IntKind.wrap_u32]; unfold Hand.W32; omega
theorem blkA_words (l : List Int) : ∀ i, Hand.Words (blkA l i)
  | 0 => ⟨rfl, by intro x hx; unfold Hand.W32; simp [blkA] at hx; omega⟩
  | i + 1 => (blkA_words l i).set_ _ (wrap_w32 _)
theorem blkB_words (l : List Int) (n : Int) (l2 : List Int) : ∀ i, Hand.Words (blkB l n l2 i)
  | 0 => (blkA_words l 8).set_ _ (wrap_w32 _)
  | i + 1 => (blkB_words l n l2 i).set_ _ (wrap_w32 _)
theorem colsN_words {xs : List Int} (h : Hand.Words xs) : ∀ i, i ≤ 4 → Hand.Words (colsN xs i)
  | 0, _ => h
  | i + 1, hi => Hand.qr_words (colsN_words h i (by omega)) (by omega) (by omega) (by omega) (by omega)
theorem diagsN_words {xs : List Int} (h : Hand.Words xs) : ∀ i, i ≤ 4 → Hand.Words (diagsN xs i)
  | 0, _ => h
  | i + 1, hi => Hand.qr_words (diagsN_words h i (by omega)) (by omega) (by omega) (by omega) (by omega)
theorem mixN_words {xs : List Int} (h : Hand.Words xs) : ∀ i, Hand.Words (mixN xs i)
  | 0 => h
  | i + 1 => diagsN_words (colsN_words (mixN_words h i) 4 (by decide)) 4 (by decide)
theorem outN_length (xs ys : List Int) : ∀ i, (outN xs ys i).length = 4 * i
  | 0 => rfl
  | i + 1 => by rw [outN, List.length_append, outN_length xs ys i, lowN_length]; omega
theorem cut4 (l : List Int) (p p4 i : Nat) (hp : 4 * i = p) (hp4 : p + 4 = p4) : (l.take (p4 : Int).toNat).drop (p : Int).toNat = (l.drop (4 * i)).take 4 := by
  subst hp hp4
  rw [Int.toNat_natCast, Int.toNat_natCast, List.drop_take]
  congr 1
  omega
theorem key_quarter.num (a b c d : Int) (g i j m n : Nat) (xs : List Int) (w W : World) (ha : (i : Int) = a) (hb : (j : Int) = b) (hc : (m : Int) = c) (hd : (n : Int) = d) (hi : i < 16) (hj : j < 16) (hm : m < 16) (hn : n < 16) (hne : (i ≠ j ∧ i ≠ m ∧ i ≠ n) ∧ (j ≠ m ∧ j ≠ n) ∧ m ≠ n) (hg : Sixteen w W g xs) (hs : Hand.Words xs) :
    Calls Tryd.prog 39 #[.pointer (some ⟨g, 0, none⟩), .int .i64 a, .int .i64 b, .int .i64 c, .int .i64 d] W fun e w' => e = .returned (.tuple #[]) ∧ Sixteen w w' g (Hand.qr xs i j m n) := by
  subst ha hb hc hd
  exact key_quarter.at_ g i j m n xs w W hi hj hm hn hne hg hs
theorem diag_nums (j : Nat) (h : j < 4) : ∃ p1 p2 p3 r1 r2 r3 : Nat, p1 = j + 1 ∧ IntKind.i64.wrap ((j : Int) + 1) = (p1 : Int) ∧ IntKind.i64.wrap ((j : Int) + 2) = (p2 : Int) ∧ IntKind.i64.wrap ((j : Int) + 3) = (p3 : Int) ∧
    Int.tmod (p1 : Int) 4 = (r1 : Int) ∧ Int.tmod (p2 : Int) 4 = (r2 : Int) ∧ Int.tmod (p3 : Int) 4 = (r3 : Int) ∧
    IntKind.i64.wrap (4 + (r1 : Int)) = ((4 + (j + 1) % 4 : Nat) : Int) ∧ IntKind.i64.wrap (8 + (r2 : Int)) = ((8 + (j + 2) % 4 : Nat) : Int) ∧ IntKind.i64.wrap (12 + (r3 : Int)) = ((12 + (j + 3) % 4 : Nat) : Int) := by
  refine ⟨j + 1, j + 2, j + 3, (j + 1) % 4, (j + 2) % 4, (j + 3) % 4, rfl, ?_, ?_, ?_, ?_, ?_, ?_, ?_, ?_, ?_⟩
  · rw [i64_w, Hand.w64 (by omega) (by omega)]; omega
  · rw [i64_w, Hand.w64 (by omega) (by omega)]; omega
  · rw [i64_w, Hand.w64 (by omega) (by omega)]; omega
  · rfl
  · rfl
  · rfl
  · rw [i64_w, Hand.w64 (by omega) (by omega)]; omega
  · rw [i64_w, Hand.w64 (by omega) (by omega)]; omega
  · rw [i64_w, Hand.w64 (by omega) (by omega)]; omega
theorem info_arr : (Tryd.prog.info? 68).map (fun i => (i.zero, i.size)) = some (some (.agg (nums .u32 (List.replicate 16 0)).toArray), 16) := by kernel_rfl
theorem nums_one (k : IntKind) (xs : List Int) : ((nums k xs).toArray).all (·.oneCell') = true := by
  rw [Array.all_eq_true_iff_forall_mem]
  intro v hv
  simp [nums] at hv
  obtain ⟨a, _, rfl⟩ := hv
  rfl
theorem nums_size (k : IntKind) (xs : List Int) : (nums k xs).toArray.size = xs.length := by simp [nums]
theorem arr_built : (Tryd.prog.built 68 [(0, .int .u32 1634760805), (1, .int .u32 857760878), (2, .int .u32 2036477234), (3, .int .u32 1797285236)]) = some (nums .u32 (blkA [] 0)).toArray := by kernel_rfl
set_option maxHeartbeats 8000000 in
set_option maxRecDepth 100000 in
theorem key_block.calls (A0 : Option Addr) (c0 : Nat) (l0 : List Int) (a1 : Int) (A2 : Option Addr) (c2 : Nat) (l2 : List Int) (r : List Int) (w : World) (hr0 : Kd.C (Kd.int .u8) w A0 l0.length l0) (hc0 : l0.length ≤ c0) (hr2 : Kd.C (Kd.int .u8) w A2 l2.length l2) (hc2 : l2.length ≤ c2) (h : key_block.f l0 a1 l2 = some r) :
    Calls Tryd.prog 28 #[.slice A0 l0.length c0, .int .i64 a1, .slice A2 l2.length c2] w fun e w' => ∃ v0_ : Value, e = .returned v0_ ∧ Kd.R (Kd.int .u8) 5 w' w.heap.size (fun _ => True) v0_ r ∧ Below w.heap.size w w' := by
  have HR0 := Aside0.mk hr0
  have HC0 := Aside0.mk hc0
  have HR2 := Aside0.mk hr2
  have HC2 := Aside0.mk hc2
  clear hr0 hc0 hr2 hc2
  have hq : (l0.length = 32 ∧ l2.length = 12) ∧ (ByteL l0 ∧ ByteL l2) ∧ blockOf l0 a1 l2 = r := by
    unfold key_block.f at h
    split at h
    · rename_i hc
      cases h
      exact ⟨hc.1, ⟨byteL_all hc.2.1, byteL_all hc.2.2⟩, rfl⟩
    · cases h
  clear h
  obtain ⟨⟨hl0, hl2⟩, ⟨hb0, hb2⟩, he⟩ := hq
  have HL0 := Aside0.mk hl0
  have HL2 := Aside0.mk hl2
  have HY0 := Aside0.mk hb0
  have HY2 := Aside0.mk hb2
  have HE := Aside0.mk he
  clear hl0 hl2 hb0 hb2 he
  have hz := (zero_of_info info_arr).1
  have hsz : (Tryd.prog.info? 68).map (·.size) = some 16 := (zero_of_info info_arr).2
  have hsA : (Tryd.prog.info? 68).map (·.size) = some (nums .u32 (blkA l0 0)).toArray.size := hsz.trans (by simp [nums, blkA])
  have hsB : (nums .u32 [0, 0, 0, 0, 0, 0, 0, 0, 0, 0, 0, 0, 0, 0, 0, 0]).toArray.size = (nums .u32 (blkA l0 0)).toArray.size := by simp [nums, blkA]
  go_enter Tryd.func28, Tryd.ntmps28
  go_wp2_with (first | (refine wpList_build rfl 68 _ rfl (by kernel_rfl) ?_; rw [show (Tryd.prog.built 68 _).getD #[] = (nums .u32 (blkA l0 0)).toArray from by kernel_rfl]) | (with_reducible refine wpList_store_row rfl 68 _ _ rfl w.heap.size _ rfl rfl 68 _ (heap_alloc_new _ _) hsA hsB (nums_one _ _) ?_; rw [World.setRow_alloc_new]))
  obtain ⟨W0, hW0⟩ : ∃ W0, w.alloc (.cells (nums .u32 (blkA l0 0)).toArray 68) = W0 := ⟨_, rfl⟩
  rw [hW0]
  obtain ⟨g, hg⟩ : ∃ g, w.heap.size = g := ⟨_, rfl⟩
  have HS : Aside0 (Sixteen W0 W0 g (blkA l0 0)) := ⟨Sixteen.refl (by rw [← hW0, ← hg]; exact heap_alloc_new _ _)⟩
  have HB0 : Aside0 (Below w.heap.size w W0) := ⟨by rw [← hW0]; exact below_alloc (Below.refl _ _) _⟩
  have HG0 := Aside0.mk hg
  rw [hg]
  clear hg hW0
  go_loopg [17] 8 (fun q s17 wx => ∃ i : Nat, i + q = 8 ∧ s17 = .int .i64 i ∧ Aside0 (Sixteen W0 wx g (blkA l0 i)))
  case atStart => exact ⟨0, by omega, rfl, HS⟩
  case round =>
    obtain ⟨i, hig, rfl, HG⟩ := hrel
    cases gk with
    | succ q =>
      have hi : i < 8 := by omega
      have hi2 : (i : Int) < 8 := by omega
      obtain ⟨j, hj⟩ : ∃ j : Nat, 4 + i = j := ⟨_, rfl⟩
      obtain ⟨p, hp⟩ : ∃ p : Nat, 4 * i = p := ⟨_, rfl⟩
      have e1 : IntKind.i64.wrap (4 + (i : Int)) = (j : Int) := by rw [i64_w, Hand.w64 (by omega) (by omega)]; omega
      have e2 : IntKind.i64.wrap (4 * (i : Int)) = (p : Int) := by rw [i64_w, Hand.w64 (by omega) (by omega)]; omega
      obtain ⟨p4, hp4⟩ : ∃ p4 : Nat, p + 4 = p4 := ⟨_, rfl⟩
      have e3 : IntKind.i64.wrap ((p : Int) + 4) = (p4 : Int) := by rw [i64_w, Hand.w64 (by omega) (by omega)]; omega
      have hj0 : (0 : Int) ≤ (j : Int) := by omega
      have hj1 : (j : Int) < 16 := by omega
      have hjn : j < 16 := by omega
      obtain ⟨i013, hi013, _, hsz13, _⟩ := info_parts info5
      obtain ⟨A13, hcut13, hA13, hC13⟩ := print_mid_of (P := Tryd.prog) (Value.int .u8) 0 27 5 .i64 .i64 Tryd.underlying27 hi013 hsz13 A0 c0 l0 (p : Int) (p4 : Int) (by omega) (by omega) (by rw [HL0.out]; omega) HC0.out
      have HR := Aside0.mk (Kd.C_below (Kd.C_of_reads (h1 := fun _ => rfl) (hA13 _ (Kd.reads_of_C HR0.out))) (HB0.out.trans (HG.out.2.1.mono (by rw [HG0.out]; exact Nat.le_refl _))))
      have HC := Aside0.mk hC13
      clear hA13 hC13 hi013 hsz13
      obtain ⟨m, hm⟩ : ∃ m, ((l0.take (p4 : Int).toNat).drop (p : Int).toNat).length = m := ⟨_, rfl⟩
      have HM := Aside0.mk hm
      rw [hm] at hcut13
      clear hm
      have kj := HG.out.cell j (by rw [(blkA_words l0 i).1]; exact hjn)
      have fj := HG.out.fz j
      obtain ⟨L, hL⟩ : ∃ L, leN ((l0.take (p4 : Int).toNat).drop (p : Int).toNat) = L := ⟨_, rfl⟩
      have HLL := Aside0.mk hL
      clear hL
      go_wp2_with (first | (go_at_call 38; (with_reducible refine (get_le.calls _ _ m ((l0.take (p4 : Int).toNat).drop (p : Int).toNat) _ ?side1 ?side2 ?side3 ?side4).mono ?_); (case side1 => have h := HR.out; rw [HM.out] at h; exact h); (case side2 => have h := HC.out; rw [HM.out] at h; exact h); (case side3 => exact byteL_cut HY0.out _ _); (case side4 => have h := HM.out; rw [List.length_drop, List.length_take] at h; omega); rw [HLL.out]; rintro e w' ⟨rfl, ⟨nd, rfl⟩⟩))
      go_roundg q
      case measure => omega
      case rel =>
        refine ⟨i + 1, by omega, by first | rfl | simp, ⟨?_⟩⟩
        rw [blkA, hj, show blkKey l0 i = IntKind.u32.wrap L from by rw [← HLL.out, cut4 l0 p p4 i hp hp4]; rfl]
        exact (HG.out.drewN _).set j _
    | zero =>
      obtain rfl : i = 8 := by omega
      clear hig
      have k12 := HG.out.cell 12 (by rw [(blkA_words l0 8).1]; decide)
      have f12 := HG.out.fz 12
      go_wp2
      go_loopg [36] 3 (fun q s36 wx => ∃ i : Nat, i + q = 3 ∧ s36 = .int .i64 i ∧ Aside0 (Sixteen W0 wx g (blkB l0 a1 l2 i)))
      case atStart => exact ⟨0, by omega, rfl, ⟨HG.out.set 12 _⟩⟩
      case round =>
        clear k12 f12 HG
        obtain ⟨i, hig, rfl, HG⟩ := hrel
        cases gk with
        | succ q =>
          have hi : i < 3 := by omega
          have hi2 : (i : Int) < 3 := by omega
          obtain ⟨j, hj⟩ : ∃ j : Nat, 13 + i = j := ⟨_, rfl⟩
          obtain ⟨p, hp⟩ : ∃ p : Nat, 4 * i = p := ⟨_, rfl⟩
          have e1 : IntKind.i64.wrap (13 + (i : Int)) = (j : Int) := by rw [i64_w, Hand.w64 (by omega) (by omega)]; omega
          have e2 : IntKind.i64.wrap (4 * (i : Int)) = (p : Int) := by rw [i64_w, Hand.w64 (by omega) (by omega)]; omega
          obtain ⟨p4, hp4⟩ : ∃ p4 : Nat, p + 4 = p4 := ⟨_, rfl⟩
          have e3 : IntKind.i64.wrap ((p : Int) + 4) = (p4 : Int) := by rw [i64_w, Hand.w64 (by omega) (by omega)]; omega
          have hj0 : (0 : Int) ≤ (j : Int) := by omega
          have hj1 : (j : Int) < 16 := by omega
          have hjn : j < 16 := by omega
          obtain ⟨i013, hi013, _, hsz13, _⟩ := info_parts info5
          obtain ⟨A13, hcut13, hA13, hC13⟩ := print_mid_of (P := Tryd.prog) (Value.int .u8) 0 27 5 .i64 .i64 Tryd.underlying27 hi013 hsz13 A2 c2 l2 (p : Int) (p4 : Int) (by omega) (by omega) (by rw [HL2.out]; omega) HC2.out
          have HR := Aside0.mk (Kd.C_below (Kd.C_of_reads (h1 := fun _ => rfl) (hA13 _ (Kd.reads_of_C HR2.out))) (HB0.out.trans (HG.out.2.1.mono (by rw [HG0.out]; exact Nat.le_refl _))))
          have HC := Aside0.mk hC13
          clear hA13 hC13 hi013 hsz13
          obtain ⟨m, hm⟩ : ∃ m, ((l2.take (p4 : Int).toNat).drop (p : Int).toNat).length = m := ⟨_, rfl⟩
          have HM := Aside0.mk hm
          rw [hm] at hcut13
          clear hm
          have kj := HG.out.cell j (by rw [(blkB_words l0 a1 l2 i).1]; exact hjn)
          have fj := HG.out.fz j
          obtain ⟨L, hL⟩ : ∃ L, leN ((l2.take (p4 : Int).toNat).drop (p : Int).toNat) = L := ⟨_, rfl⟩
          have HLL := Aside0.mk hL
          clear hL
          go_wp2_with (first | (go_at_call 38; (with_reducible refine (get_le.calls _ _ m ((l2.take (p4 : Int).toNat).drop (p : Int).toNat) _ ?side1 ?side2 ?side3 ?side4).mono ?_); (case side1 => have h := HR.out; rw [HM.out] at h; exact h); (case side2 => have h := HC.out; rw [HM.out] at h; exact h); (case side3 => exact byteL_cut HY2.out _ _); (case side4 => have h := HM.out; rw [List.length_drop, List.length_take] at h; omega); rw [HLL.out]; rintro e w' ⟨rfl, ⟨nd, rfl⟩⟩))
          go_roundg q
          case measure => omega
          case rel =>
            refine ⟨i + 1, by omega, by first | rfl | simp, ⟨?_⟩⟩
            rw [blkB, hj, show blkKey l2 i = IntKind.u32.wrap L from by rw [← HLL.out, cut4 l2 p p4 i hp hp4]; rfl]
            exact (HG.out.drewN _).set j _
        | zero =>
          obtain rfl : i = 3 := by omega
          clear hig
          obtain ⟨X, hX⟩ : ∃ X, blkB l0 a1 l2 3 = X := ⟨_, rfl⟩
          have HX := Aside0.mk hX
          have hwx : Hand.Words X := by rw [← hX]; exact blkB_words _ _ _ _
          rw [hX] at HG
          clear hX
          have hsx : (Tryd.prog.info? 68).map (·.size) = some (nums .u32 X).toArray.size := by rw [nums_size, hwx.1]; exact hsz
          have hsx2 : (nums .u32 [0, 0, 0, 0, 0, 0, 0, 0, 0, 0, 0, 0, 0, 0, 0, 0]).toArray.size = (nums .u32 X).toArray.size := by rw [nums_size, nums_size, hwx.1]; rfl
          have HWX := Aside0.mk hwx
          have h1 := HG.out.1
          have hlt : g < wr.heap.size := blk_lt h1
          obtain ⟨W1, hW1⟩ : ∃ W1, wr.alloc (.cells (nums .u32 X).toArray 68) = W1 := ⟨_, rfl⟩
          have HS1 : Aside0 (Sixteen W1 W1 g X) := ⟨Sixteen.refl (by rw [← hW1]; exact (heap_alloc_old wr _ hlt).trans h1)⟩
          have HB1 : Aside0 (Below w.heap.size w W1) := ⟨by rw [← hW1]; exact below_alloc (HB0.out.trans (HG.out.2.1.mono (by rw [HG0.out]; exact Nat.le_refl _))) _⟩
          go_wp2_with (first | (with_reducible refine wpList_load_row rfl 68 _ rfl g rfl 68 _ (0, 0) _ h1 Tryd.underlying68 rfl hsx ?_) | (with_reducible refine wpList_store_row rfl 68 _ _ rfl _ _ rfl rfl 68 _ (heap_alloc_new _ _) hsx hsx2 (nums_one _ _) ?_; rw [World.setRow_alloc_new]))
          obtain ⟨b2, hb2⟩ : ∃ b2, wr.heap.size = b2 := ⟨_, rfl⟩
          have HK : Aside0 (W1.heap[b2]? = some (.cells (nums .u32 X).toArray 68 (0, 0))) := ⟨by rw [← hW1, ← hb2]; exact heap_alloc_new _ _⟩
          have HNE : Aside0 (b2 ≠ g) := ⟨by omega⟩
          try rw [hW1]
          rw [hb2]
          clear hW1 hb2 hlt h1 HG hsx hsx2 hwx
          go_loopg [53] 10 (fun q s53 wx => ∃ i : Nat, i + q = 10 ∧ s53 = .int .i64 i ∧ Aside0 (Sixteen W1 wx g (mixN X i)))
          case atStart => exact ⟨0, by omega, rfl, HS1⟩
          case round =>
            clear HS1
            obtain ⟨i, hig, rfl, HG⟩ := hrel
            cases gk with
            | succ q =>
              have hi : i < 10 := by omega
              have hi2 : (i : Int) < 10 := by omega
              obtain ⟨Y, hY⟩ : ∃ Y, mixN X i = Y := ⟨_, rfl⟩
              have HY := Aside0.mk hY
              have HWY : Aside0 (Hand.Words Y) := ⟨by rw [← hY]; exact mixN_words HWX.out _⟩
              rw [hY] at HG
              clear hY
              go_wp2
              go_loopg [55] 4 (fun q s55 wx => ∃ j : Nat, j + q = 4 ∧ s55 = .int .i64 j ∧ Aside0 (Sixteen W1 wx g (colsN Y j)))
              case atStart => exact ⟨0, by omega, rfl, HG⟩
              case round =>
                clear HG
                obtain ⟨j, hjg, rfl, HG⟩ := hrel
                cases gk with
                | succ q2 =>
                  have hj : j < 4 := by omega
                  have hj2 : (j : Int) < 4 := by omega
                  have e1 : IntKind.i64.wrap ((j : Int) + 4) = ((j + 4 : Nat) : Int) := by rw [i64_w, Hand.w64 (by omega) (by omega)]; omega
                  have e2 : IntKind.i64.wrap ((j : Int) + 8) = ((j + 8 : Nat) : Int) := by rw [i64_w, Hand.w64 (by omega) (by omega)]; omega
                  have e3 : IntKind.i64.wrap ((j : Int) + 12) = ((j + 12 : Nat) : Int) := by rw [i64_w, Hand.w64 (by omega) (by omega)]; omega
                  obtain ⟨j4, hj4⟩ : ∃ j4 : Nat, j + 4 = j4 := ⟨_, rfl⟩
                  obtain ⟨j8, hj8⟩ : ∃ j8 : Nat, j + 8 = j8 := ⟨_, rfl⟩
                  obtain ⟨j12, hj12⟩ : ∃ j12 : Nat, j + 12 = j12 := ⟨_, rfl⟩
                  rw [hj4] at e1
                  rw [hj8] at e2
                  rw [hj12] at e3
                  have HJ : Aside0 (colsN Y (j + 1) = Hand.qr (colsN Y j) j j4 j8 j12) := ⟨by rw [← hj4, ← hj8, ← hj12]; rfl⟩
                  go_wp2_with (first | (go_at_call 39; (with_reducible refine (key_quarter.num _ _ _ _ g j j4 j8 j12 (colsN Y j) W1 _ rfl rfl rfl rfl ?s1 ?s2 ?s3 ?s4 ?s5 HG.out ?s6).mono ?_); (case s1 => omega); (case s2 => omega); (case s3 => omega); (case s4 => omega); (case s5 => refine ⟨⟨?_, ?_, ?_⟩, ⟨?_, ?_⟩, ?_⟩ <;> omega); (case s6 => exact colsN_words HWY.out _ (by omega)); rintro e w' ⟨rfl, hgq⟩; have HQ := Aside0.mk hgq; clear hgq))
                  go_roundg q2
                  case measure => omega
                  case rel => exact ⟨j + 1, by omega, by first | rfl | simp, ⟨by rw [HJ.out]; exact HQ.out⟩⟩
                | zero =>
                  obtain rfl : j = 4 := by omega
                  clear hjg
                  obtain ⟨V, hV⟩ : ∃ V, colsN Y 4 = V := ⟨_, rfl⟩
                  have HV := Aside0.mk hV
                  have HWV : Aside0 (Hand.Words V) := ⟨by rw [← hV]; exact colsN_words HWY.out _ (by decide)⟩
                  rw [hV] at HG
                  clear hV
                  go_wp2
                  go_loopg [67] 4 (fun q s67 wx => ∃ j : Nat, j + q = 4 ∧ s67 = .int .i64 j ∧ Aside0 (Sixteen W1 wx g (diagsN V j)))
                  case atStart => exact ⟨0, by omega, rfl, HG⟩
                  case round =>
                    clear HG
                    obtain ⟨j, hjg, rfl, HG⟩ := hrel
                    cases gk with
                    | succ q2 =>
                      have hj : j < 4 := by omega
                      have hj2 : (j : Int) < 4 := by omega
                      have HJ : Aside0 (diagsN V (j + 1) = Hand.qr (diagsN V j) j (4 + (j + 1) % 4) (8 + (j + 2) % 4) (12 + (j + 3) % 4)) := ⟨rfl⟩
                      have n1 : 4 + (j + 1) % 4 < 8 := by omega
                      have n2 : 8 + (j + 2) % 4 < 12 := by omega
                      have n3 : 12 + (j + 3) % 4 < 16 := by omega
                      have n4 : 4 ≤ 4 + (j + 1) % 4 := by omega
                      have n5 : 8 ≤ 8 + (j + 2) % 4 := by omega
                      have n6 : 12 ≤ 12 + (j + 3) % 4 := by omega
                      obtain ⟨p1, p2, p3, r1, r2, r3, e0, e1, e2, e3, m1, m2, m3, e4, e5, e6⟩ := diag_nums j hj
                      obtain ⟨j4, hj4⟩ : ∃ p : Nat, 4 + (j + 1) % 4 = p := ⟨_, rfl⟩
                      obtain ⟨j8, hj8⟩ : ∃ p : Nat, 8 + (j + 2) % 4 = p := ⟨_, rfl⟩
                      obtain ⟨j12, hj12⟩ : ∃ p : Nat, 12 + (j + 3) % 4 = p := ⟨_, rfl⟩
                      rw [hj4] at HJ n1 n4 e4
                      rw [hj8] at HJ n2 n5 e5
                      rw [hj12] at HJ n3 n6 e6
                      clear hj4 hj8 hj12
                      have N1 := Aside0.mk n1
                      have N2 := Aside0.mk n2
                      have N3 := Aside0.mk n3
                      have N4 := Aside0.mk n4
                      have N5 := Aside0.mk n5
                      have N6 := Aside0.mk n6
                      have NJ := Aside0.mk hj
                      have HP := Aside0.mk e0
                      clear e0
                      clear n1 n2 n3 n4 n5 n6
                      go_wp2_with (first | (go_at_call 39; (with_reducible refine (key_quarter.num _ _ _ _ g j j4 j8 j12 (diagsN V j) W1 _ rfl rfl rfl rfl ?s1 ?s2 ?s3 ?s4 ?s5 HG.out ?s6).mono ?_); (case s1 => clear e1 e2 e3 e4 e5 e6 m1 m2 m3; have nj := NJ.out; have n1 := N1.out; have n2 := N2.out; have n3 := N3.out; have n4 := N4.out; have n5 := N5.out; have n6 := N6.out; omega); (case s2 => clear e1 e2 e3 e4 e5 e6 m1 m2 m3; have nj := NJ.out; have n1 := N1.out; have n2 := N2.out; have n3 := N3.out; have n4 := N4.out; have n5 := N5.out; have n6 := N6.out; omega); (case s3 => clear e1 e2 e3 e4 e5 e6 m1 m2 m3; have nj := NJ.out; have n1 := N1.out; have n2 := N2.out; have n3 := N3.out; have n4 := N4.out; have n5 := N5.out; have n6 := N6.out; omega); (case s4 => clear e1 e2 e3 e4 e5 e6 m1 m2 m3; have nj := NJ.out; have n1 := N1.out; have n2 := N2.out; have n3 := N3.out; have n4 := N4.out; have n5 := N5.out; have n6 := N6.out; omega); (case s5 => clear e1 e2 e3 e4 e5 e6 m1 m2 m3; have nj := NJ.out; have n1 := N1.out; have n2 := N2.out; have n3 := N3.out; have n4 := N4.out; have n5 := N5.out; have n6 := N6.out; refine ⟨⟨?_, ?_, ?_⟩, ⟨?_, ?_⟩, ?_⟩ <;> omega); (case s6 => exact diagsN_words HWV.out _ (by clear e1 e2 e3 e4 e5 e6 m1 m2 m3; have nj := NJ.out; have n1 := N1.out; have n2 := N2.out; have n3 := N3.out; have n4 := N4.out; have n5 := N5.out; have n6 := N6.out; omega)); rintro e w' ⟨rfl, hgq⟩; have HQ := Aside0.mk hgq; clear hgq))
                      clear e1 e2 e3 e4 e5 e6 m1 m2 m3
                      go_roundg q2
                      case measure => omega
                      case rel => exact ⟨j + 1, by omega, by first | (rw [HP.out]; done) | (rw [HP.out]; rfl) | rfl | simp, ⟨by rw [HJ.out]; exact HQ.out⟩⟩
                    | zero =>
                      obtain rfl : j = 4 := by omega
                      go_wp2
                      go_roundg q
                      case measure => omega
                      case rel => exact ⟨i + 1, by omega, by first | rfl | simp, ⟨by rw [mixN, HY.out, HV.out]; exact HG.out⟩⟩
            | zero =>
              obtain rfl : i = 10 := by omega
              clear hig
              obtain ⟨Z, hZ⟩ : ∃ Z, mixN X 10 = Z := ⟨_, rfl⟩
              have HZ := Aside0.mk hZ
              have hwz : Hand.Words Z := by rw [← hZ]; exact mixN_words HWX.out _
              rw [hZ] at HG
              clear hZ
              have hsx : (Tryd.prog.info? 68).map (·.size) = some (nums .u32 Z).toArray.size := by rw [nums_size, hwz.1]; exact hsz
              have HWZ := Aside0.mk hwz
              have h1 := HG.out.1
              have HT : Aside0 (wr.heap[b2]? = some (.cells (nums .u32 X).toArray 68 (0, 0))) := ⟨HG.out.2.2.blk HK.out HNE.out (by simp)⟩
              have HB2 : Aside0 (Below w.heap.size w wr) := ⟨HB1.out.trans (HG.out.2.1.mono (by rw [HG0.out]; exact Nat.le_refl _))⟩
              go_wp2_with (first | (with_reducible refine wpList_load_row rfl 68 _ rfl g rfl 68 _ (0, 0) _ h1 Tryd.underlying68 rfl hsx ?_))
              obtain ⟨W2, hW2⟩ : ∃ W2, W2 = wr := ⟨_, rfl⟩
              subst hW2
              clear h1 hsx hwz
              go_loopg [13, 87] 16 (fun q s13 s87 wx => ∃ i : Nat, i + q = 16 ∧ s87 = .int .i64 i ∧ Aside0 (Kd.R (Kd.int .u8) 5 wx W2.heap.size (fun _ => True) s13 (outN Z X i)) ∧ Aside0 (Below W2.heap.size W2 wx))
              case atStart => exact ⟨0, by omega, rfl, ⟨Kd.R_nil _ _ _ _ _⟩, ⟨Below.refl _ _⟩⟩
              case round =>
                obtain ⟨i, hig, rfl, HO, HB⟩ := hrel
                cases gk with
                | succ q =>
                  have hi : i < 16 := by omega
                  have hi2 : (i : Int) < 16 := by omega
                  obtain ⟨x, hx⟩ : ∃ x, Z.getD i 0 = x := ⟨_, rfl⟩
                  obtain ⟨y, hy⟩ : ∃ y, X.getD i 0 = y := ⟨_, rfl⟩
                  have kx : ∀ w : World, (Instr.index 68 (.agg (nums .u32 Z).toArray) (.int .i64 (i : Int))).run Tryd.prog w = .ok (.int .u32 x) w := fun w => Hand.run_index_arr w Tryd.underlying68 (by kernel_rfl) (by kernel_rfl) (by kernel_rfl) (by omega) (by omega) (by rw [← hx]; simp [nums, List.getD_eq_getElem?_getD, HWZ.out.1, hi])
                  have ky : wr.cell? ⟨b2, i, none⟩ = some (.int .u32 y) := (HB.out.cell (p := ⟨b2, i, none⟩) (blk_lt HT.out)).trans (by rw [blk_cell HT.out, ← hy]; simp [nums, List.getD_eq_getElem?_getD, HWX.out.1, hi])
                  obtain ⟨s, hs⟩ : ∃ s, Hand.q1 x y = s := ⟨_, rfl⟩
                  have hs2 : Hand.W32 s := by rw [← hs]; exact Hand.q1_bd _ _
                  have e4 : (x + y) % 4294967296 = s := hs
                  have e5 : s % 18446744073709551616 = s := by have h1 := hs2.1; have h2 := hs2.2; clear e4 hs hx hy; omega
                  have HJ : Aside0 (outN Z X (i + 1) = outN Z X i ++ lowN 4 s) := ⟨by rw [outN, hx, hy, hs]⟩
                  clear hx hy hs
                  have HLE : Aside0 ((outN Z X i).length ≤ 1000000) := ⟨by rw [outN_length]; clear e4 e5; omega⟩
                  go_wp2_with (first | (go_at_call 40; (with_reducible refine (putL4.calls (w0 := W2) s ?side1 HO.out HB.out).mono ?_); (case side1 => exact HLE.out); rintro e w5 ⟨v5, rfl, ho, hb⟩; have HO5 := Aside0.mk ho; have HB5 := Aside0.mk hb; clear ho hb))
                  clear e4 e5
                  go_roundg q
                  case measure => omega
                  case rel => exact ⟨i + 1, by omega, by first | rfl | simp, ⟨by rw [HJ.out]; exact HO5.out⟩, HB5⟩
                | zero =>
                  obtain rfl : i = 16 := by omega
                  go_wp2
                  go_ret
                  exact ⟨_, rfl, by rw [← HE.out, blockOf, HX.out, HZ.out]; exact Kd.R_lower HO.out (below_size HB2.out), HB2.out.trans (HB.out.mono (below_size HB2.out))⟩

/-! ### key_Stream: function 13 -/
-- EXT HIDDEN
mutual
def key_Stream.j0 : Nat → List Int → Int → List Int → Int → Bool → Option (List Int × Int)
  | 0, _, _, _, _, _ => none
  | k + 1, x0, x1, x2, x3, x45 => if x45 = true then (some (([] : List Int), 1)) else (key_Stream.l0 k x0 x2 x3 ([] : List Int) x1)
def key_Stream.l0 : Nat → List Int → List Int → Int → List Int → Int → Option (List Int × Int)
  | 0, _, _, _, _, _ => none
  | k + 1, x0, x2, x3, x10, x11 => if (x10.length : Int) < x3 then ((key_block.f x0 x11 x2).bind fun t109 => (if x10.length + t109.length < 140737488355328 then (key_Stream.l0 k x0 x2 x3 (x10 ++ t109) (wrap64 (x11 + 1))) else (none))) else (if 0 ≤ x3 then (if x3 ≤ (x10.length : Int) then (some ((x10.take (x3 : Int).toNat), 0)) else (none)) else (none))
end
def key_Stream.f (k : Nat) (l0 : List Int) (a1 : Int) (l2 : List Int) (a3 : Int) : Option (List Int × Int) := if (l0.length : Int) = 32 then (if (l2.length : Int) = 12 then (if a1 < 0 then (key_Stream.j0 k l0 a1 l2 a3 true) else (if a1 > 4294967295 then (key_Stream.j0 k l0 a1 l2 a3 true) else (if a3 < 0 then (key_Stream.j0 k l0 a1 l2 a3 true) else (if a3 > 4000 then (key_Stream.j0 k l0 a1 l2 a3 true) else (key_Stream.j0 k l0 a1 l2 a3 (decide ((wrap64 ((wrap64 (a1 + (wrap64 (Int.tdiv (wrap64 ((wrap64 (a3 + 64)) - 1)) 64)))) - 1)) > 4294967295))))))) else (key_Stream.j0 k l0 a1 l2 a3 true)) else (key_Stream.j0 k l0 a1 l2 a3 true)
theorem key_Stream.mono_l : ∀ k, (∀ y0 y1 y2 y3 y4, LeO (key_Stream.j0 k y0 y1 y2 y3 y4) (key_Stream.j0 (k + 1) y0 y1 y2 y3 y4)) ∧ (∀ y0 y1 y2 y3 y4, LeO (key_Stream.l0 k y0 y1 y2 y3 y4) (key_Stream.l0 (k + 1) y0 y1 y2 y3 y4))
  | 0 => ⟨fun _ _ _ _ _ r h => by simp [key_Stream.j0] at h, fun _ _ _ _ _ r h => by simp [key_Stream.l0] at h⟩
  | k + 1 => by
    obtain ⟨ih0, ih1⟩ := key_Stream.mono_l k
    refine ⟨?_, ?_⟩
    · intro y0 y1 y2 y3 y4
      unfold key_Stream.j0
      repeat' first
      | (with_reducible exact ih0 _ _ _ _ _)
      | (with_reducible exact ih1 _ _ _ _ _)
      | (with_reducible exact LeO.refl _)
      | (with_reducible exact LeO.none _)
      | (with_reducible refine LeO.ite ?_ ?_)
      | (with_reducible refine LeO.bind ?_ (fun _ => ?_))
      | exact ih0 _ _ _ _ _
      | exact ih1 _ _ _ _ _
      | exact LeO.none _
      | refine LeO.ite ?_ ?_
      | refine LeO.bind ?_ (fun _ => ?_)
    · intro y0 y1 y2 y3 y4
      unfold key_Stream.l0
      repeat' first
      | (with_reducible exact ih0 _ _ _ _ _)
      | (with_reducible exact ih1 _ _ _ _ _)
      | (with_reducible exact LeO.refl _)
      | (with_reducible exact LeO.none _)
      | (with_reducible refine LeO.ite ?_ ?_)
      | (with_reducible refine LeO.bind ?_ (fun _ => ?_))
      | exact ih0 _ _ _ _ _
      | exact ih1 _ _ _ _ _
      | exact LeO.none _
      | refine LeO.ite ?_ ?_
      | refine LeO.bind ?_ (fun _ => ?_)
theorem key_Stream.mono : ∀ a0 a1 a2 a3 k, LeO (key_Stream.f k a0 a1 a2 a3) (key_Stream.f (k + 1) a0 a1 a2 a3) := by
  intro a0 a1 a2 a3 k
  obtain ⟨ih0, ih1⟩ := key_Stream.mono_l k
  unfold key_Stream.f
  repeat' first
      | (with_reducible exact ih0 _ _ _ _ _)
      | (with_reducible exact ih1 _ _ _ _ _)
      | (with_reducible exact LeO.refl _)
      | (with_reducible exact LeO.none _)
      | (with_reducible refine LeO.ite ?_ ?_)
      | (with_reducible refine LeO.bind ?_ (fun _ => ?_))
      | exact ih0 _ _ _ _ _
      | exact ih1 _ _ _ _ _
      | exact LeO.none _
      | refine LeO.ite ?_ ?_
      | refine LeO.bind ?_ (fun _ => ?_)
theorem cut_cap {P : Program} (t e : TypeId) (kh : IntKind) {i : TypeInfo} (ht : P.underlying t = some (.slice e)) (hi : P.info? e = some i) (A : Option Addr) (n c : Nat) (j : Int) (h0 : 0 ≤ j) (hm : j ≤ n) (hc : n ≤ c) :
    ∀ W : World, (Instr.slice t (.slice A n c) none (some (.int kh j)) (some (.int kh j))).run P W = .ok (.slice A j.toNat j.toNat) W := by
  intro W
  have hel : P.elem t = e := by simp [Program.elem, ht]
  have hu : P.underlying t = some (.slice (P.elem t)) := by rw [hel]; exact ht
  have ha : (A.map fun x => x.add 0) = A := by cases A <;> simp [Addr.add]
  rw [run_slice_hm W t A n c hu kh kh j j h0 (Int.le_refl _) (by omega), hel]
  simp [sizeOf, typeInfo, hi, sliced, Result.andThen, ha]
set_option maxHeartbeats 8000000 in
set_option maxRecDepth 100000 in
theorem key_Stream.callsR (k : Nat) (A0 : Option Addr) (c0 : Nat) (l0 : List Int) (a1 : Int) (A2 : Option Addr) (c2 : Nat) (l2 : List Int) (a3 : Int) (r1 : List Int) (r2 : Int) (w : World) (hr0 : Kd.C (Kd.int .u8) w A0 l0.length l0) (hc0 : l0.length ≤ c0) (hr2 : Kd.C (Kd.int .u8) w A2 l2.length l2) (hc2 : l2.length ≤ c2) (h : key_Stream.f k l0 a1 l2 a3 = some (r1, r2)) :
    Calls Tryd.prog 13 #[.slice A0 l0.length c0, .int .i64 a1, .slice A2 l2.length c2, .int .i64 a3] w fun e w' => ∃ (A9_ : Option Addr) (c9_ co_ : Nat), e = .returned (.tuple #[.slice A9_ r1.length c9_, .int .i64 r2]) ∧ r1.length ≤ c9_ ∧ Kd.R (Kd.int .u8) 5 w' w.heap.size (fun _ => True) (.slice A9_ r1.length co_) r1 ∧ Below w.heap.size w w' := by
  have HR0 := Aside0.mk hr0
  have HC0 := Aside0.mk hc0
  clear hr0 hc0
  have HR2 := Aside0.mk hr2
  have HC2 := Aside0.mk hc2
  clear hr2 hc2
  have HB := Aside0.mk (Below.refl w.heap.size w)
  have H : (if (l0.length : Int) = 32 then (if (l2.length : Int) = 12 then (if a1 < 0 then (key_Stream.j0 k l0 a1 l2 a3 true) else (if a1 > 4294967295 then (key_Stream.j0 k l0 a1 l2 a3 true) else (if a3 < 0 then (key_Stream.j0 k l0 a1 l2 a3 true) else (if a3 > 4000 then (key_Stream.j0 k l0 a1 l2 a3 true) else (key_Stream.j0 k l0 a1 l2 a3 (decide ((wrap64 ((wrap64 (a1 + (wrap64 (Int.tdiv (wrap64 ((wrap64 (a3 + 64)) - 1)) 64)))) - 1)) > 4294967295))))))) else (key_Stream.j0 k l0 a1 l2 a3 true)) else (key_Stream.j0 k l0 a1 l2 a3 true)) = some (r1, r2) := h
  clear h
  have HC5 := Aside0.mk H
  clear H
  go_enter Tryd.func13, Tryd.ntmps13
  go_upto_region 1 with (fail)
  go_cut [45] (fun v45 wc => ∃ (kq : Nat) (x45_4 : Bool), v45 = .bool x45_4 ∧ Aside0 (key_Stream.j0 kq l0 a1 l2 a3 x45_4 = some (r1, r2)) ∧ Aside0 (kq ≤ k) ∧ Aside0 (Below w.heap.size w wc))
  case first =>
    have H := HC5.out
    clear HC5
    by_cases c6 : (l0.length : Int) = 32
    · rw [if_pos c6] at H
      have c6b0 : ((l0.length : Int) == 32) = true := beq_iff_eq.mpr c6
      have c6b1 : ((l0.length : Int) != 32) = false := bne_eq_false_iff_eq.mpr c6
      clear c6
      (first | rw [c6b0] | (simp only [i64_w, i32_w]; rw [c6b0]) | skip)
      by_cases c7 : (l2.length : Int) = 12
      · rw [if_pos c7] at H
        have c7b0 : ((l2.length : Int) == 12) = true := beq_iff_eq.mpr c7
        have c7b1 : ((l2.length : Int) != 12) = false := bne_eq_false_iff_eq.mpr c7
        clear c7
        by_cases c8 : a1 < 0
        · rw [if_pos c8] at H
          have c8b0 : decide (a1 < 0) = true := decide_eq_true c8
          clear c8
          have H' := Aside0.mk H
          clear H
          go_wp2
          go_meet
          case rel => exact ⟨_, (true), (by first | rfl | (simp; done) | (simp [*]; done)), H', ⟨by first | omega | exact Nat.le_refl _⟩, ⟨by repeat (first | (with_reducible first | exact HB.out | apply below_alloc | apply pw_below_drewN | apply below_drew1) | exact HB.out)⟩⟩
        · rw [if_neg c8] at H
          have c8b0 : decide (a1 < 0) = false := decide_eq_false c8
          clear c8
          by_cases c9 : a1 > 4294967295
          · rw [if_pos c9] at H
            have c9b0 : decide (4294967295 < a1) = true := decide_eq_true c9
            clear c9
            have H' := Aside0.mk H
            clear H
            go_wp2
            go_meet
            case rel => exact ⟨_, (true), (by first | rfl | (simp; done) | (simp [*]; done)), H', ⟨by first | omega | exact Nat.le_refl _⟩, ⟨by repeat (first | (with_reducible first | exact HB.out | apply below_alloc | apply pw_below_drewN | apply below_drew1) | exact HB.out)⟩⟩
          · rw [if_neg c9] at H
            have c9b0 : decide (4294967295 < a1) = false := decide_eq_false c9
            clear c9
            by_cases c10 : a3 < 0
            · rw [if_pos c10] at H
              have c10b0 : decide (a3 < 0) = true := decide_eq_true c10
              clear c10
              have H' := Aside0.mk H
              clear H
              go_wp2
              go_meet
              case rel => exact ⟨_, (true), (by first | rfl | (simp; done) | (simp [*]; done)), H', ⟨by first | omega | exact Nat.le_refl _⟩, ⟨by repeat (first | (with_reducible first | exact HB.out | apply below_alloc | apply pw_below_drewN | apply below_drew1) | exact HB.out)⟩⟩
            · rw [if_neg c10] at H
              have c10b0 : decide (a3 < 0) = false := decide_eq_false c10
              clear c10
              by_cases c11 : a3 > 4000
              · rw [if_pos c11] at H
                have c11b0 : decide (4000 < a3) = true := decide_eq_true c11
                clear c11
                have H' := Aside0.mk H
                clear H
                go_wp2
                go_meet
                case rel => exact ⟨_, (true), (by first | rfl | (simp; done) | (simp [*]; done)), H', ⟨by first | omega | exact Nat.le_refl _⟩, ⟨by repeat (first | (with_reducible first | exact HB.out | apply below_alloc | apply pw_below_drewN | apply below_drew1) | exact HB.out)⟩⟩
              · rw [if_neg c11] at H
                have c11b0 : decide (4000 < a3) = false := decide_eq_false c11
                clear c11
                have H' := Aside0.mk H
                clear H
                go_wp2
                go_meet
                case rel => exact ⟨_, (decide ((wrap64 ((wrap64 (a1 + (wrap64 (Int.tdiv (wrap64 ((wrap64 (a3 + 64)) - 1)) 64)))) - 1)) > 4294967295)), (by first | rfl | (simp; done) | (simp [*]; done)), H', ⟨by first | omega | exact Nat.le_refl _⟩, ⟨by repeat (first | (with_reducible first | exact HB.out | apply below_alloc | apply pw_below_drewN | apply below_drew1) | exact HB.out)⟩⟩
      · rw [if_neg c7] at H
        have c7b0 : ((l2.length : Int) == 12) = false := beq_eq_false_iff_ne.mpr c7
        have c7b1 : ((l2.length : Int) != 12) = true := bne_iff_ne.mpr c7
        have H' := Aside0.mk H
        clear H
        go_wp2
        go_meet
        case rel => exact ⟨_, (true), (by first | rfl | (simp; done) | (simp [*]; done)), H', ⟨by first | omega | exact Nat.le_refl _⟩, ⟨by repeat (first | (with_reducible first | exact HB.out | apply below_alloc | apply pw_below_drewN | apply below_drew1) | exact HB.out)⟩⟩
    · rw [if_neg c6] at H
      have c6b0 : ((l0.length : Int) == 32) = false := beq_eq_false_iff_ne.mpr c6
      have c6b1 : ((l0.length : Int) != 32) = true := bne_iff_ne.mpr c6
      (first | rw [c6b0] | (simp only [i64_w, i32_w]; rw [c6b0]) | skip)
      have H' := Aside0.mk H
      clear H
      go_wp2
      go_meet
      case rel => exact ⟨_, (true), (by first | rfl | (simp; done) | (simp [*]; done)), H', ⟨by first | omega | exact Nat.le_refl _⟩, ⟨by repeat (first | (with_reducible first | exact HB.out | apply below_alloc | apply pw_below_drewN | apply below_drew1) | exact HB.out)⟩⟩
  case rest =>
    clear HC5
    try clear c1
    try clear c2
    try clear p2
    try clear c6
    try clear c6b0
    try clear c6b1
    try clear p6
    try clear c7
    try clear c7b0
    try clear c7b1
    try clear c8
    try clear c8b0
    try clear c9
    try clear c9b0
    try clear c10
    try clear c10b0
    try clear c11
    try clear c11b0
    obtain ⟨kq, x45_4, rfl, HA, HJ4, HB⟩ := hcut
    cases kq with
    | zero => exact absurd HA.out (by simp [key_Stream.j0])
    | succ kj4 =>
      have H := HA.out
      clear HA
      simp only [key_Stream.j0] at H
      by_cases c12 : x45_4 = true
      · subst c12
        have H1 : (some (([] : List Int), 1)) = some (r1, r2) := by rw [if_pos rfl] at H; exact H
        clear H
        have H := H1
        clear H1
        simp only [Option.some.injEq, Prod.mk.injEq] at H
        obtain ⟨rfl, rfl⟩ := H
        go_wp2
        go_ret2
        exact ⟨none, 0, 0, (by first | rfl | (simp [errW_none, errW_some] <;> rfl) | (simp [*, errW_none, errW_some] <;> rfl)), Nat.le_refl _, Kd.R_nil _ _ _ _ _, (by repeat (first | (with_reducible first | exact HB.out | apply below_alloc | apply pw_below_drewN | apply below_drew1) | exact HB.out))⟩
      · replace c12 := Bool.eq_false_iff.mpr c12
        subst c12
        have H1 : (key_Stream.l0 kj4 l0 l2 a3 ([] : List Int) a1) = some (r1, r2) := by rw [if_neg (show ¬ (false = true) by decide)] at H; exact H
        clear H
        have H := H1
        clear H1
        have H' := Aside0.mk H
        clear H
        go_wp2
        go_loopg [10, 11] kj4 (fun kq v10 v11 w' => ∃ (x10_2 : List Int) (x11_2 : Int), v11 = .int .i64 x11_2 ∧ Aside0 (key_Stream.l0 kq l0 l2 a3 x10_2 x11_2 = some (r1, r2)) ∧ Aside0 (kq ≤ kj4) ∧ Aside0 (Kd.R (Kd.int .u8) 5 w' w.heap.size (fun _ => True) v10 x10_2) ∧ Aside0 (Below w.heap.size w w'))
        case atStart => exact ⟨(([] : List Int)), (a1), (by first | rfl | (simp; done) | (simp [*]; done)), H', ⟨Nat.le_refl _⟩, ⟨by first | exact Kd.R_nil _ _ _ _ _ | exact Kd.N_nil _ _ _ _ _ | exact Kd.V_nil _ _ _ _ _ | exact Kd.Q_nil _ _ _ _ _ | exact Kd.S_nil _ _ _ _ _⟩, ⟨by repeat (first | (with_reducible first | exact HB.out | apply below_alloc | apply pw_below_drewN | apply below_drew1) | exact HB.out)⟩⟩
        case round =>
          clear H'
          try clear c1
          try clear c2
          try clear p2
          try clear c6
          try clear c6b0
          try clear c6b1
          try clear p6
          try clear c7
          try clear c7b0
          try clear c7b1
          try clear c8
          try clear c8b0
          try clear c9
          try clear c9b0
          try clear c10
          try clear c10b0
          try clear c11
          try clear c11b0
          try clear c12
          try clear p2
          try clear p6
          obtain ⟨x10_2, x11_2, rfl, HA, HK2, HO_10, HB⟩ := hrel
          cases gk with
          | zero => exact absurd HA.out (by simp [key_Stream.l0])
          | succ k2 =>
            have H := HA.out
            clear HA
            simp only [key_Stream.l0] at H
            by_cases c13 : (x10_2.length : Int) < a3
            · rw [if_pos c13] at H
              have c13b0 : decide ((x10_2.length : Int) < a3) = true := decide_eq_true c13
              clear c13
              replace H := Option.bind_eq_some_iff.mp H
              obtain ⟨t109, A140, H⟩ := H
              replace H : (if x10_2.length + t109.length < 140737488355328 then (key_Stream.l0 k2 l0 l2 a3 (x10_2 ++ t109) (wrap64 (x11_2 + 1))) else (none)) = some (r1, r2) := H
              have A14 := Aside0.mk A140
              clear A140
              by_cases c15 : x10_2.length + t109.length < 140737488355328
              · rw [if_pos c15] at H
                have LMc15 := Aside0.mk c15
                clear c15
                obtain ⟨y112, hy112⟩ : ∃ y_ : List Int, y_ = (x10_2 ++ t109) := ⟨_, rfl⟩
                replace H : (key_Stream.l0 k2 l0 l2 a3 y112 (wrap64 (x11_2 + 1))) = some (r1, r2) := by first | (rw [hy112]; with_reducible exact H) | (have H2_ := (Option.bind_some _ _).symm.trans H; rw [hy112]; with_reducible exact H2_) | (have H2_ := (Option.bind_some _ _).symm.trans H; with_reducible exact H2_) | with_reducible exact H | (rw [hy112]; exact H) | exact H
                have Ny112 := Aside0.mk hy112
                clear hy112
                have H' := Aside0.mk H
                clear H
                obtain ⟨Ao16, co16, eo16⟩ := Kd.R_slice HO_10.out
                subst eo16
                go_wp2_with (first | ((with_reducible refine gate_callee (f := 28) rfl ?_); refine goesL_ (some 57) rfl rfl Tryd.func28 (by kernel_rfl) rfl #[.slice A0 l0.length c0, .int .i64 x11_2, .slice A2 l2.length c2] rfl (by (try simp only [List.map_toArray, List.map_cons, List.map_nil]); first | done | rfl | (simp only [List.length_drop, List.length_take]; rfl)) ?_; (with_reducible refine (key_block.calls _ _ l0 x11_2 _ _ l2 t109 _ ?side1 ?side2 ?side3 ?side4 A14.out).mono ?_); (case side1 => repeat (first | exact (Kd.C_below HR0.out HB.out) | (with_reducible refine Kd.C_alloc ?_ _) | (with_reducible refine Kd.C_drewN ?_ _) | (with_reducible refine Kd.C_drew ?_))); (case side2 => exact HC0.out); (case side3 => repeat (first | exact (Kd.C_below HR2.out HB.out) | (with_reducible refine Kd.C_alloc ?_ _) | (with_reducible refine Kd.C_drewN ?_ _) | (with_reducible refine Kd.C_drew ?_))); (case side4 => exact HC2.out); rintro e w17 ⟨v110, rfl, ho0, hb⟩; refine ⟨_, rfl, ?_⟩; have n0_ := Aside0.mk (Kd.R_elder' (by (with_reducible repeat (first | apply Kd.R_alloc | apply Kd.R_drewN | apply Kd.R_drew)); exact HO_10.out) (Kd.R_base ho0) hb); have n1_ := Aside0.mk (Kd.R_lower (Kd.R_new' ho0 (Kd.R_lt (by (with_reducible repeat (first | apply Kd.R_alloc | apply Kd.R_drewN | apply Kd.R_drew)); exact HO_10.out))) (below_size (by repeat (first | (with_reducible first | exact HB.out | apply below_alloc | apply pw_below_drewN | apply below_drew1) | exact HB.out)))); have n2_ := Aside0.mk (below_step (by repeat (first | (with_reducible first | exact HB.out | apply below_alloc | apply pw_below_drewN | apply below_drew1) | exact HB.out)) hb); clear HO_10; clear HB; have HO_10 := n0_; have HO111 := n1_; have HB := n2_; clear n0_ n1_ n2_; (try clear hb); (try clear hb2); (try clear hk); (try clear hi); (try clear ho0); obtain ⟨Ao19, co19, eo19⟩ := Kd.R_slice HO111.out; subst eo19) | ((with_reducible refine gate_builtin (b := .append) (xs := #[.tmp 53, .tmp 57]) rfl ?_); (try (refine gate_guard (by rfl) ?_; dsimp only)); at_builtin; refine Kd.R_append_rows (Kd.int .u8) (w0 := w) w.heap.size rfl (.tmp 53) (.tmp 57) 27 5 (.int .u8 0) 1 rfl Tryd.underlying27 info5 rfl (by decide) (by omega) (.slice Ao16 x10_2.length co16) x10_2 t109 _ _ _ (fun k_ => some k_ ≠ (.slice Ao19 t109.length co19 : Value).ownBlock) (fun _ => False) rfl rfl ?aO ?aR (fun _ _ h => h) (fun _ h => h.elim) ?aF ?aB ?aS ?aL ?_; (case aR => repeat (first | exact (Kd.R_reads' HO111.out).2.2 | (with_reducible refine Kd.C_alloc ?_ _) | (with_reducible refine Kd.C_drewN ?_ _) | (with_reducible refine Kd.C_drew ?_))); (case aB => exact (by repeat (first | (with_reducible first | exact HB.out | apply below_alloc | apply pw_below_drewN | apply below_drew1) | exact HB.out))); (case aF => exact (fun k_ hk => Kd.fresh' (Kd.R_lt (by (with_reducible repeat (first | apply Kd.R_alloc | apply Kd.R_drewN | apply Kd.R_drew)); exact HO111.out)) k_ hk)); (case aO => exact (by (with_reducible repeat (first | apply Kd.R_alloc | apply Kd.R_drewN | apply Kd.R_drew)); exact Kd.R_mono HO_10.out (fun _ hk => hk.2))); (case aS => exact (below_size (by repeat (first | (with_reducible first | exact HB.out | apply below_alloc | apply pw_below_drewN | apply below_drew1) | exact HB.out)))); (case aL => have := LMc15.out; omega); intro v113 w18 ho hb hg hat; rw [← Ny112.out] at ho; have n0_ := Aside0.mk (Kd.R_after (ok := (fun _ => True)) (by (with_reducible repeat (first | apply Kd.R_alloc | apply Kd.R_drewN | apply Kd.R_drew)); exact HO111.out) hg hat); have n1_ := Aside0.mk (hb); have n2_ := Aside0.mk (ho); clear HO111; clear HB; clear HO_10; have HO111 := n0_; have HB := n1_; have HO114 := n2_; clear n0_ n1_ n2_; clear ho hb hg hat))
                go_roundg k2
                case measure => have := HJ4.out; have := HK2.out; omega
                case rel => exact ⟨(y112), (wrap64 (x11_2 + 1)), (by first | rfl | (simp; done) | (simp [*]; done)), H', ⟨by have := HJ4.out; have := HK2.out; omega⟩, ⟨by (with_reducible repeat (first | apply Kd.R_alloc | apply Kd.R_drewN | apply Kd.R_drew)); exact Kd.R_mono HO114.out (fun _ hk => trivial)⟩, ⟨by repeat (first | (with_reducible first | exact HB.out | apply below_alloc | apply pw_below_drewN | apply below_drew1) | exact HB.out)⟩⟩
              · rw [if_neg c15] at H
                exact absurd H (by simp)
            · rw [if_neg c13] at H
              have c13b0 : decide ((x10_2.length : Int) < a3) = false := decide_eq_false c13
              clear c13
              by_cases c20 : 0 ≤ a3
              · rw [if_pos c20] at H
                have c20b0 := eq_true c20
                have c20b1 : decide (0 ≤ a3) = true := decide_eq_true c20
                clear c20
                by_cases c21 : a3 ≤ (x10_2.length : Int)
                · rw [if_pos c21] at H
                  have c21b0 := eq_true c21
                  have c21b1 : decide (a3 ≤ (x10_2.length : Int)) = true := decide_eq_true c21
                  clear c21
                  obtain ⟨y115, hy115⟩ : ∃ y_ : List Int, y_ = (x10_2.take (a3 : Int).toNat) := ⟨_, rfl⟩
                  replace H : (some (y115, 0)) = some (r1, r2) := by first | (rw [hy115]; with_reducible exact H) | (have H2_ := (Option.bind_some _ _).symm.trans H; rw [hy115]; with_reducible exact H2_) | (have H2_ := (Option.bind_some _ _).symm.trans H; with_reducible exact H2_) | with_reducible exact H | (rw [hy115]; exact H) | exact H
                  have Ny115 := Aside0.mk hy115
                  clear hy115
                  simp only [Option.some.injEq, Prod.mk.injEq] at H
                  obtain ⟨rfl, rfl⟩ := H
                  obtain ⟨Ao22, co22, eo22⟩ := Kd.R_slice HO_10.out
                  subst eo22
                  have q23 : (a3 : Int) ≤ ((x10_2.length : Int) : Int) := of_decide_eq_true (by first | (with_reducible assumption) | assumption)
                  obtain ⟨i023, hi023, _, hsz23, _⟩ := info_parts info5
                  have hcut23 := cut_cap (P := Tryd.prog) 27 5 .i64 Tryd.underlying27 hi023 Ao22 x10_2.length co22 a3 (of_decide_eq_true (by first | (with_reducible assumption) | assumption)) q23 (Kd.R_reads' HO_10.out).2.1
                  have hr23 := Kd.R_take (m := (a3 : Int).toNat) HO_10.out (by omega)
                  have hy23 : y115.length = (a3 : Int).toNat := (by rw [Ny115.out, List.length_take]; omega)
                  rw [← Ny115.out] at hr23
                  rw [← hy23] at hr23 hcut23
                  clear hy23 hi023 hsz23 HO_10
                  have HO117 := Aside0.mk hr23
                  clear hr23
                  replace q23 := eq_true q23
                  go_wp2
                  go_ret2
                  exact ⟨_, _, _, (by first | rfl | (simp [errW_none, errW_some] <;> rfl) | (simp [*, errW_none, errW_some] <;> rfl)), Nat.le_refl _, (by have h := HO117.out; first | exact Kd.R_mono h (fun _ _ => trivial) | exact Kd.R_mono (Kd.R_drew h) (fun _ _ => trivial)), (by repeat (first | (with_reducible first | exact HB.out | apply below_alloc | apply pw_below_drewN | apply below_drew1) | exact HB.out))⟩
                · rw [if_neg c21] at H
                  exact absurd H (by simp)
              · rw [if_neg c20] at H
                exact absurd H (by simp)
theorem key_Stream.calls (k : Nat) (A0 : Option Addr) (c0 : Nat) (l0 : List Int) (a1 : Int) (A2 : Option Addr) (c2 : Nat) (l2 : List Int) (a3 : Int) (r1 : List Int) (r2 : Int) (w : World) (hr0 : Kd.C (Kd.int .u8) w A0 l0.length l0) (hc0 : l0.length ≤ c0) (hr2 : Kd.C (Kd.int .u8) w A2 l2.length l2) (hc2 : l2.length ≤ c2) (h : key_Stream.f k l0 a1 l2 a3 = some (r1, r2)) :
    Calls Tryd.prog 13 #[.slice A0 l0.length c0, .int .i64 a1, .slice A2 l2.length c2, .int .i64 a3] w fun e w' => ∃ (A9_ : Option Addr) (c9_ : Nat), e = .returned (.tuple #[.slice A9_ r1.length c9_, .int .i64 r2]) ∧ r1.length ≤ c9_ ∧ Kd.C (Kd.int .u8) w' A9_ r1.length r1 ∧ Below w.heap.size w w' :=
  (key_Stream.callsR k A0 c0 l0 a1 A2 c2 l2 a3 r1 r2 w hr0 hc0 hr2 hc2 h).mono fun _ _ ⟨A, c, _, he, hl, ho, hb⟩ => ⟨A, c, he, hl, (Kd.R_reads' ho).2.2, hb⟩

theorem key_Stream.callsm (k : Nat) (A0 : Option Addr) (c0 m0 : Nat) (l0 : List Int) (a1 : Int) (A2 : Option Addr) (c2 m2 : Nat) (l2 : List Int) (a3 : Int) (r1 : List Int) (n1 : Nat) (r2 : Int) (w : World) (hm0 : l0.length = m0) (hm2 : l2.length = m2) (hn1 : r1.length = n1) (hr0 : Kd.C (Kd.int .u8) w A0 m0 l0) (hc0 : m0 ≤ c0) (hr2 : Kd.C (Kd.int .u8) w A2 m2 l2) (hc2 : m2 ≤ c2) (h : key_Stream.f k l0 a1 l2 a3 = some (r1, r2)) :
    Calls Tryd.prog 13 #[.slice A0 m0 c0, .int .i64 a1, .slice A2 m2 c2, .int .i64 a3] w fun e w' => ∃ (A9_ : Option Addr) (c9_ : Nat), e = .returned (.tuple #[.slice A9_ n1 c9_, .int .i64 r2]) ∧ n1 ≤ c9_ ∧ Kd.C (Kd.int .u8) w' A9_ n1 r1 ∧ Below w.heap.size w w' := by
  subst hm0 hm2 hn1
  exact (key_Stream.calls k A0 c0 l0 a1 A2 c2 l2 a3 r1 r2 w hr0 hc0 hr2 hc2 h).mono fun _ _ h => h

/-! ### wireglasslaw21_counted: function 14 -/
def wireglasslaw21_counted.l0 : Nat → Int → List Int → Int → Option (List Int)
  | 0, _, _, _ => none
  | k + 1, x0, x3, x4 => if x4 < x0 then (if x3.length < 140737488355328 then (wireglasslaw21_counted.l0 k x0 (x3 ++ [(x4) % 256]) (wrap64 (x4 + 1))) else (none)) else (some x3)
def wireglasslaw21_counted.f (k : Nat) (a0 : Int) : Option (List Int) := wireglasslaw21_counted.l0 k a0 ([] : List Int) 0
theorem wireglasslaw21_counted.mono_l : ∀ k, (∀ y0 y1 y2, LeO (wireglasslaw21_counted.l0 k y0 y1 y2) (wireglasslaw21_counted.l0 (k + 1) y0 y1 y2))
  | 0 => fun _ _ _ r h => by simp [wireglasslaw21_counted.l0] at h
  | k + 1 => by
    have ih0 := wireglasslaw21_counted.mono_l k
    · intro y0 y1 y2
      unfold wireglasslaw21_counted.l0
      repeat' first
      | (with_reducible exact ih0 _ _ _)
      | (with_reducible exact LeO.refl _)
      | (with_reducible exact LeO.none _)
      | (with_reducible refine LeO.ite ?_ ?_)
      | (with_reducible refine LeO.bind ?_ (fun _ => ?_))
      | exact ih0 _ _ _
      | exact LeO.none _
      | refine LeO.ite ?_ ?_
      | refine LeO.bind ?_ (fun _ => ?_)
theorem wireglasslaw21_counted.mono : ∀ a0 k, LeO (wireglasslaw21_counted.f k a0) (wireglasslaw21_counted.f (k + 1) a0) := by
  intro a0 k
  have ih0 := wireglasslaw21_counted.mono_l k
  unfold wireglasslaw21_counted.f
  repeat' first
      | (with_reducible exact ih0 _ _ _)
      | (with_reducible exact LeO.refl _)
      | (with_reducible exact LeO.none _)
      | (with_reducible refine LeO.ite ?_ ?_)
      | (with_reducible refine LeO.bind ?_ (fun _ => ?_))
      | exact ih0 _ _ _
      | exact LeO.none _
      | refine LeO.ite ?_ ?_
      | refine LeO.bind ?_ (fun _ => ?_)
set_option maxHeartbeats 8000000 in
set_option maxRecDepth 100000 in
theorem wireglasslaw21_counted.calls (k : Nat) (a0 : Int) (r : List Int) (w : World) (h : wireglasslaw21_counted.f k a0 = some r) :
    Calls Tryd.prog 14 #[.int .i64 a0] w fun e w' => ∃ v0_ : Value, e = .returned (v0_) ∧ Kd.R (Kd.int .u8) 5 w' w.heap.size (fun _ => True) v0_ r ∧ Below w.heap.size w w' := by
  have HB := Aside0.mk (Below.refl w.heap.size w)
  have H : (wireglasslaw21_counted.l0 k a0 ([] : List Int) 0) = some r := h
  clear h
  have H' := Aside0.mk H
  clear H
  go_enter Tryd.func14, Tryd.ntmps14
  go_wp2
  go_loopg [3, 4] k (fun kq v3 v4 w' => ∃ (x3_1 : List Int) (x4_1 : Int), v4 = .int .i64 x4_1 ∧ Aside0 (wireglasslaw21_counted.l0 kq a0 x3_1 x4_1 = some r) ∧ Aside0 (kq ≤ k) ∧ Aside0 (Kd.R (Kd.int .u8) 5 w' w.heap.size (fun _ => True) v3 x3_1) ∧ Aside0 (Below w.heap.size w w'))
  case atStart => exact ⟨(([] : List Int)), (0), (by first | rfl | (simp; done) | (simp [*]; done)), H', ⟨Nat.le_refl _⟩, ⟨by first | exact Kd.R_nil _ _ _ _ _ | exact Kd.N_nil _ _ _ _ _ | exact Kd.V_nil _ _ _ _ _ | exact Kd.Q_nil _ _ _ _ _ | exact Kd.S_nil _ _ _ _ _⟩, ⟨by repeat (first | (with_reducible first | exact HB.out | apply below_alloc | apply pw_below_drewN | apply below_drew1) | exact HB.out)⟩⟩
  case round =>
    clear H'
    try clear c1
    obtain ⟨x3_1, x4_1, rfl, HA, HK1, HO_3, HB⟩ := hrel
    cases gk with
    | zero => exact absurd HA.out (by simp [wireglasslaw21_counted.l0])
    | succ k1 =>
      have H := HA.out
      clear HA
      simp only [wireglasslaw21_counted.l0] at H
      by_cases c2 : x4_1 < a0
      · rw [if_pos c2] at H
        have c2b0 : decide (x4_1 < a0) = true := decide_eq_true c2
        clear c2
        by_cases c3 : x3_1.length < 140737488355328
        · rw [if_pos c3] at H
          have LMc3 := Aside0.mk c3
          clear c3
          obtain ⟨y109, hy109⟩ : ∃ y_ : List Int, y_ = (x3_1 ++ [(x4_1) % 256]) := ⟨_, rfl⟩
          replace H : (wireglasslaw21_counted.l0 k1 a0 y109 (wrap64 (x4_1 + 1))) = some r := by first | (rw [hy109]; with_reducible exact H) | (have H2_ := (Option.bind_some _ _).symm.trans H; rw [hy109]; with_reducible exact H2_) | (have H2_ := (Option.bind_some _ _).symm.trans H; with_reducible exact H2_) | with_reducible exact H | (rw [hy109]; exact H) | exact H
          have Ny109 := Aside0.mk hy109
          clear hy109
          have H' := Aside0.mk H
          clear H
          go_wp2_with (first | ((with_reducible refine gate_builtin (b := .append) (xs := #[.tmp 10, .tmp 13]) rfl ?_); at_builtin; refine Kd.R_append (Kd.int .u8) (w0 := w) w.heap.size rfl (.tmp 10) (.tmp 13) 27 5 (.int .u8 0) 1 rfl Tryd.underlying27 info5 rfl (by decide) (by omega) u3 x3_1 ((x4_1) % 256) [.int .u8 ((x4_1) % 256)] (fun _ => True) (fun _ => False) rfl rfl ?aP (fun _ hk => hk.elim) ?aF ?aO ?aB ?aS ?aL ?_; (case aP => exact rfl); (case aB => exact (by repeat (first | (with_reducible first | exact HB.out | apply below_alloc | apply pw_below_drewN | apply below_drew1) | exact HB.out))); (case aF => exact (fun _ _ => trivial)); (case aO => exact (by (with_reducible repeat (first | apply Kd.R_alloc | apply Kd.R_drewN | apply Kd.R_drew)); exact HO_3.out)); (case aS => exact (below_size (by repeat (first | (with_reducible first | exact HB.out | apply below_alloc | apply pw_below_drewN | apply below_drew1) | exact HB.out)))); (case aL => have := LMc3.out; omega); intro v110 w4 ho hb hg hat; rw [← Ny109.out] at ho; have n0_ := Aside0.mk (hb); have n1_ := Aside0.mk (ho); clear HB; clear HO_3; have HB := n0_; have HO111 := n1_; clear n0_ n1_; clear ho hb hg hat))
          go_roundg k1
          case measure => have := HK1.out; omega
          case rel => exact ⟨(y109), (wrap64 (x4_1 + 1)), (by first | rfl | (simp; done) | (simp [*]; done)), H', ⟨by have := HK1.out; omega⟩, ⟨by (with_reducible repeat (first | apply Kd.R_alloc | apply Kd.R_drewN | apply Kd.R_drew)); exact HO111.out⟩, ⟨by repeat (first | (with_reducible first | exact HB.out | apply below_alloc | apply pw_below_drewN | apply below_drew1) | exact HB.out)⟩⟩
        · rw [if_neg c3] at H
          exact absurd H (by simp)
      · rw [if_neg c2] at H
        have c2b0 : decide (x4_1 < a0) = false := decide_eq_false c2
        clear c2
        obtain rfl := Option.some.inj H
        go_wp2
        go_ret
        exact ⟨_, by first | rfl | (simp [errW_none, errW_some] <;> rfl) | (simp [*, errW_none, errW_some] <;> rfl), by (with_reducible repeat (first | apply Kd.R_alloc | apply Kd.R_drewN | apply Kd.R_drew)); exact HO_3.out, by repeat (first | (with_reducible first | exact HB.out | apply below_alloc | apply pw_below_drewN | apply below_drew1) | exact HB.out)⟩

/-! ### key_turn_uint64: function 54 -/
-- EXT rounds=0 making=0
theorem turn64.calls (v n r : Int) (w : World) (hn : n = 13 ∨ n = 32 ∨ n = 16 ∨ n = 21 ∨ n = 17) (h0 : 0 ≤ v) (h1 : v < 18446744073709551616) (hr : Hand.rot64 n.toNat v = r) :
    Calls Tryd.prog 54 #[.int .u64 v, .int .i64 n] w fun e w' => e = .returned (.int .u64 r) ∧ Drawn0 w w' := by
  subst hr
  rcases hn with rfl | rfl | rfl | rfl | rfl
  · have hv : Go.bits .or .u64 (v * 8192 % 18446744073709551616) (v / 2251799813685248) = Hand.rot64 (13 : Int).toNat v := Hand.or_u64' (by omega) (by omega) (by omega) (by omega)
    have HV := Aside0.mk hv
    clear hv
    go_enter Tryd.func54, Tryd.ntmps54
    go_wp2_with (go_at_call 63; (first | (with_reducible refine (len64_u64' _).mono ?_) | (with_reducible refine (len64_u64 _).mono ?_)); rintro e w' ⟨rfl, rfl⟩)
    go_quiet (fail)
    go_wp2
    go_ret
    exact ⟨congrArg (fun z => Ending.returned (Value.int .u64 z)) HV.out, by repeat (first | exact Drawn0.refl _ | apply Drawn0.step)⟩
  · have hv : Go.bits .or .u64 (v * 4294967296 % 18446744073709551616) (v / 4294967296) = Hand.rot64 (32 : Int).toNat v := Hand.or_u64' (by omega) (by omega) (by omega) (by omega)
    have HV := Aside0.mk hv
    clear hv
    go_enter Tryd.func54, Tryd.ntmps54
    go_wp2_with (go_at_call 63; (first | (with_reducible refine (len64_u64' _).mono ?_) | (with_reducible refine (len64_u64 _).mono ?_)); rintro e w' ⟨rfl, rfl⟩)
    go_quiet (fail)
    go_wp2
    go_ret
    exact ⟨congrArg (fun z => Ending.returned (Value.int .u64 z)) HV.out, by repeat (first | exact Drawn0.refl _ | apply Drawn0.step)⟩
  · have hv : Go.bits .or .u64 (v * 65536 % 18446744073709551616) (v / 281474976710656) = Hand.rot64 (16 : Int).toNat v := Hand.or_u64' (by omega) (by omega) (by omega) (by omega)
    have HV := Aside0.mk hv
    clear hv
    go_enter Tryd.func54, Tryd.ntmps54
    go_wp2_with (go_at_call 63; (first | (with_reducible refine (len64_u64' _).mono ?_) | (with_reducible refine (len64_u64 _).mono ?_)); rintro e w' ⟨rfl, rfl⟩)
    go_quiet (fail)
    go_wp2
    go_ret
    exact ⟨congrArg (fun z => Ending.returned (Value.int .u64 z)) HV.out, by repeat (first | exact Drawn0.refl _ | apply Drawn0.step)⟩
  · have hv : Go.bits .or .u64 (v * 2097152 % 18446744073709551616) (v / 8796093022208) = Hand.rot64 (21 : Int).toNat v := Hand.or_u64' (by omega) (by omega) (by omega) (by omega)
    have HV := Aside0.mk hv
    clear hv
    go_enter Tryd.func54, Tryd.ntmps54
    go_wp2_with (go_at_call 63; (first | (with_reducible refine (len64_u64' _).mono ?_) | (with_reducible refine (len64_u64 _).mono ?_)); rintro e w' ⟨rfl, rfl⟩)
    go_quiet (fail)
    go_wp2
    go_ret
    exact ⟨congrArg (fun z => Ending.returned (Value.int .u64 z)) HV.out, by repeat (first | exact Drawn0.refl _ | apply Drawn0.step)⟩
  · have hv : Go.bits .or .u64 (v * 131072 % 18446744073709551616) (v / 140737488355328) = Hand.rot64 (17 : Int).toNat v := Hand.or_u64' (by omega) (by omega) (by omega) (by omega)
    have HV := Aside0.mk hv
    clear hv
    go_enter Tryd.func54, Tryd.ntmps54
    go_wp2_with (go_at_call 63; (first | (with_reducible refine (len64_u64' _).mono ?_) | (with_reducible refine (len64_u64 _).mono ?_)); rintro e w' ⟨rfl, rfl⟩)
    go_quiet (fail)
    go_wp2
    go_ret
    exact ⟨congrArg (fun z => Ending.returned (Value.int .u64 z)) HV.out, by repeat (first | exact Drawn0.refl _ | apply Drawn0.step)⟩
def key_turn_uint64.f (a0 : Int) (a1 : Int) : Option Int := if (0 ≤ a0 ∧ a0 < 18446744073709551616) ∧ (a1 = 13 ∨ a1 = 32 ∨ a1 = 16 ∨ a1 = 21 ∨ a1 = 17) then some (Hand.rot64 a1.toNat a0) else none
theorem key_turn_uint64.calls (a0 : Int) (a1 : Int) (r : Int) (w : World) (h : key_turn_uint64.f a0 a1 = some r) :
    Calls Tryd.prog 54 #[.int .u64 a0, .int .i64 a1] w fun e w' => e = .returned (.int .u64 r) ∧ Drawn0 w w' := by
  unfold key_turn_uint64.f at h
  by_cases c : (0 ≤ a0 ∧ a0 < 18446744073709551616) ∧ (a1 = 13 ∨ a1 = 32 ∨ a1 = 16 ∨ a1 = 21 ∨ a1 = 17)
  · rw [if_pos c] at h
    exact turn64.calls a0 a1 r w c.2 c.1.1 c.1.2 (Option.some.inj h)
  · rw [if_neg c] at h; cases h

end Go.Proofs.YtbdakgkjomanlaaDoor.D
