/- The looks into the maps of moves, and a call's step walked. Conditions: as each theorem says. -/
import Derived.Test.YtbloalfgbpgepaaDoorC1
import Derived.StillTailTactics
namespace Go.Proofs.YtbloalfgbpgepaaDoor.T
open Go Go.RowKit Go.Shelf Go.Proofs.YtbloalfgbpgepaaDoor.C Go.Proofs.YtbloalfgbpgepaaDoorW.PrintWords Go.Proofs.YtbloalfgbpgepaaDoorW.PrintLast Go.Proofs.YtbloalfgbpgepaaDoorW.PrintMore Hand
attribute [local go_sem] Oper.semAt_some max2_int min2_int max_two min_two max_three min_three max_four min_four
set_option linter.unusedVariables false
set_option linter.unusedSimpArgs false
/-- The state to which an act leads. -/
def toOf (op : Int) (s : ByteArray) : Option ByteArray :=
  if op = 1 then (if s = sNew then some sRings else none)
  else if op = 2 then (if s = sNew then some sTalks else if s = sRings then some sTalks else none)
  else if op = 3 then (if s = sNew then some sLost else if s = sRings then some sLost else if s = sTalks then some sEnded else none)
  else if op = 4 then (if s = sNew then some sRefused else if s = sRings then some sRefused else none)
  else none
def mapOf (b : Nat) (op : Int) : Value := if op = 1 then .map (some (b + 1)) else if op = 2 then .map (some (b + 2)) else if op = 3 then .map (some (b + 3)) else if op = 4 then .map (some (b + 4)) else .map none
theorem zero60 (w : World) : (zeroValue 60).run Tryd.prog w = .ok (.map none) w := by kernel_rfl
theorem zero9 (w : World) : (zeroValue 9).run Tryd.prog w = .ok (.string ⟨#[]⟩) w := by kernel_rfl
theorem six {op : Int} (h0 : 0 ≤ op) (h5 : op ≤ 5) : op = 0 ∨ op = 1 ∨ op = 2 ∨ op = 3 ∨ op = 4 ∨ op = 5 := by omega
theorem look1 {w W : World} {b : Nat} (h : MM w W b (movesL b)) (op : Int) (h0 : 0 ≤ op) (h5 : op ≤ 5) : (Instr.lookup 61 (.map (some b)) (.int .i64 op) false).run Tryd.prog W = .ok (mapOf b op) W := by
  have hb := h.at_ 0 _ rfl
  rcases six h0 h5 with rfl | rfl | rfl | rfl | rfl | rfl
  · exact run_look_none false Tryd.underlying61 Tryd.underlying3 rfl hb rfl (zero60 W)
  · exact run_look (j := 0) false Tryd.underlying61 Tryd.underlying3 rfl hb rfl
  · exact run_look (j := 1) false Tryd.underlying61 Tryd.underlying3 rfl hb rfl
  · exact run_look (j := 2) false Tryd.underlying61 Tryd.underlying3 rfl hb rfl
  · exact run_look (j := 3) false Tryd.underlying61 Tryd.underlying3 rfl hb rfl
  · exact run_look_none false Tryd.underlying61 Tryd.underlying3 rfl hb rfl (zero60 W)
theorem find_hit {s k v : ByteArray} {c : Nat} {r : List MapEntry} {i : Nat} (h : s = k) : Instr.findNow .string (.string s) (ent k v c :: r) i = some (some (i, .string v)) := by
  rw [ent, Instr.findNow, Instr.sameNow, (MapKept.bytes_beq s k).2 h]
theorem find_miss {s k v : ByteArray} {c : Nat} {r : List MapEntry} {i : Nat} (h : ¬ s = k) : Instr.findNow .string (.string s) (ent k v c :: r) i = Instr.findNow .string (.string s) r (i + 1) := by
  have hb : (s == k) = false := by
    cases e : s == k with
    | false => rfl
    | true => exact absurd ((MapKept.bytes_beq s k).1 e) h
  rw [ent, Instr.findNow, Instr.sameNow, hb]
theorem look2 {w W : World} {b : Nat} (h : MM w W b (movesL b)) (op : Int) (h0 : 0 ≤ op) (h5 : op ≤ 5) (s : ByteArray) : (Instr.lookup 60 (mapOf b op) (.string s) true).run Tryd.prog W = .ok (.tuple #[.string ((toOf op s).getD ⟨#[]⟩), .bool (toOf op s).isSome]) W := by
  have u := Tryd.underlying60
  have v := Tryd.underlying9
  rcases six h0 h5 with rfl | rfl | rfl | rfl | rfl | rfl
  · exact run_look_nil true u v rfl (zero9 W)
  · have hb := h.at_ 1 _ rfl
    by_cases c1 : s = sNew
    · rw [show toOf 1 s = some sRings by simp [toOf, c1]]
      exact run_look (j := 0) true u v rfl hb (find_hit c1)
    · rw [show toOf 1 s = none by simp [toOf, c1]]
      exact run_look_none true u v rfl hb ((find_miss c1).trans rfl) (zero9 W)
  · have hb := h.at_ 2 _ rfl
    by_cases c1 : s = sNew
    · rw [show toOf 2 s = some sTalks by simp [toOf, c1]]
      exact run_look (j := 0) true u v rfl hb (find_hit c1)
    by_cases c2 : s = sRings
    · rw [show toOf 2 s = some sTalks by simp [toOf, c1, c2]]
      exact run_look (j := 1) true u v rfl hb ((find_miss c1).trans (find_hit c2))
    · rw [show toOf 2 s = none by simp [toOf, c1, c2]]
      exact run_look_none true u v rfl hb ((find_miss c1).trans ((find_miss c2).trans rfl)) (zero9 W)
  · have hb := h.at_ 3 _ rfl
    by_cases c1 : s = sNew
    · rw [show toOf 3 s = some sLost by simp [toOf, c1]]
      exact run_look (j := 0) true u v rfl hb (find_hit c1)
    by_cases c2 : s = sRings
    · rw [show toOf 3 s = some sLost by simp [toOf, c1, c2]]
      exact run_look (j := 1) true u v rfl hb ((find_miss c1).trans (find_hit c2))
    by_cases c3 : s = sTalks
    · rw [show toOf 3 s = some sEnded by unfold toOf; rw [if_neg (by decide), if_neg (by decide), if_pos rfl, if_neg c1, if_neg c2, if_pos c3]]
      exact run_look (j := 2) true u v rfl hb ((find_miss c1).trans ((find_miss c2).trans (find_hit c3)))
    · rw [show toOf 3 s = none by simp [toOf, c1, c2, c3]]
      exact run_look_none true u v rfl hb ((find_miss c1).trans ((find_miss c2).trans ((find_miss c3).trans rfl))) (zero9 W)
  · have hb := h.at_ 4 _ rfl
    by_cases c1 : s = sNew
    · rw [show toOf 4 s = some sRefused by simp [toOf, c1]]
      exact run_look (j := 0) true u v rfl hb (find_hit c1)
    by_cases c2 : s = sRings
    · rw [show toOf 4 s = some sRefused by simp [toOf, c1, c2]]
      exact run_look (j := 1) true u v rfl hb ((find_miss c1).trans (find_hit c2))
    · rw [show toOf 4 s = none by simp [toOf, c1, c2]]
      exact run_look_none true u v rfl hb ((find_miss c1).trans ((find_miss c2).trans rfl)) (zero9 W)
  · exact run_look_nil true u v rfl (zero9 W)
/-- A call's cells at block p. -/
def CallAt (W : World) (p : Nat) (y : S48) : Prop := W.heap[p]? = some (.cells #[.int .i64 y.f0, .int .i64 y.f3, .string y.f1, .string y.f2] 42 (0, 0))
/-- A call goes on by an act. -/
def takeC (op B : Int) (y : S48) : S48 := ⟨y.f0, y.f1, (toOf op y.f2).getD y.f2, if op = 5 ∧ y.f2 = sTalks then y.f3 + B else y.f3⟩
theorem MM.drew {w W : World} {b : Nat} {L : List (Array MapEntry × Nat)} (h : MM w W b L) : MM w W.drew b L := ⟨h.base, h.below.drew, h.size, h.at_⟩
theorem CallAt.below {W W' : World} {p : Nat} {y : S48} (h : CallAt W p y) {B : Nat} (hb : Below B W W') (hp : p < B) : CallAt W' p y := (hb.block p hp).trans h
set_option maxHeartbeats 4000000 in
set_option maxRecDepth 100000 in
theorem take.calls (p : Nat) (y : S48) (op a B c : Int) (s : ByteArray) (A5 : Option Addr) (n5 c5 : Nat) (W : World) (h : CallAt W p y) (h0 : 0 ≤ op) (h5 : op ≤ 5) (hB : 0 ≤ y.f3 + B ∧ y.f3 + B ≤ 9223372036854775807) :
    Calls Tryd.prog 13 #[.pointer (some ⟨p, 0, none⟩), .agg #[.int .i64 op, .int .i64 a, .int .i64 B, .int .i64 c, .string s, .slice A5 n5 c5]] W fun e w' => e = .returned (.tuple #[]) ∧ CallAt w' p (takeC op B y) ∧ Below p W w' ∧ ∀ k, k < W.heap.size → k ≠ p → w'.heap[k]? = W.heap[k]? := by
  obtain ⟨y0, y1, y2, y3⟩ := y
  have HP := Aside0.mk h
  have hlt := blk_lt h
  have k0 : (W.alloc (.cells #[.int .i64 op, .int .i64 a, .int .i64 B, .int .i64 c, .string s, .slice A5 n5 c5] 25)).cell? ⟨p, 3, none⟩ = some (.string y2) := (World.cell?_alloc_lt _ _ _ (World.block_lt_of_cell? _ _ (blk_cell h 3))).trans (blk_cell h 3)
  have HOP := Aside0.mk (And.intro h0 h5)
  have HBB := Aside0.mk hB
  have HLT := Aside0.mk hlt
  clear h h0 h5 hB hlt
  by_cases q1 : op = 5
  · by_cases q2 : y2 = sTalks
    · have hF : takeC op B ⟨y0, y1, y2, y3⟩ = ⟨y0, y1, (toOf op y2).getD y2, y3 + B⟩ := by unfold takeC; rw [if_pos ⟨q1, q2⟩]
      have b1 : (op == 5) = true := beq_iff_eq.2 q1
      have b2 : (y2.toList == [116, 97, 108, 107, 115]) = true := by rw [q2, ByteArray.toList_eq]; rfl
      clear q1 q2
      have hw : IntKind.i64.wrap (y3 + B) = y3 + B := by rw [IntKind.wrap_i64]; have := HBB.out; dsimp only at this; omega
      go_enter Tryd.func13, Tryd.ntmps13
      go_wp2
      clear k0
      obtain ⟨W0, hW0⟩ : ∃ W0, W.alloc (.cells #[.int .i64 op, .int .i64 a, .int .i64 B, .int .i64 c, .string s, .slice A5 n5 c5] 25) = W0 := ⟨_, rfl⟩
      have HB0 : Aside0 (Below W.heap.size W W0) := ⟨by rw [← hW0]; exact (Below.refl _ _).alloc (Nat.le_refl _) _⟩
      have HC0 : Aside0 (CallAt W0 p ⟨y0, y1, y2, y3⟩) := ⟨HP.out.below HB0.out HLT.out⟩
      have HS0 : Aside0 (W.heap.size < W0.heap.size) := ⟨by rw [← hW0, World.size_alloc]; omega⟩
      have HX : Aside0 (W0.heap[W.heap.size]? = some (.cells #[.int .i64 op, .int .i64 a, .int .i64 B, .int .i64 c, .string s, .slice A5 n5 c5] 25)) := ⟨by rw [← hW0]; exact blk_new W _⟩
      rw [hW0]
      have e0 : W0.cell? ⟨W.heap.size, 2, none⟩ = some (.int .i64 B) := blk_cell HX.out 2
      have e1 : W0.cell? ⟨p, 1, none⟩ = some (.int .i64 y3) := blk_cell HC0.out 1
      have e2 : W0.frozen? ⟨p, 1, none⟩ = false := blk_frozen HC0.out 1
      go_region
      obtain ⟨W1, hW1⟩ : ∃ W1, (W0.setCell ⟨p, 1, none⟩ (.int .i64 (y3 + B))).drew = W1 := ⟨_, rfl⟩
      have HB1 : Aside0 (Below p W W1) := ⟨by rw [← hW1]; exact ((HB0.out.mono (Nat.le_of_lt HLT.out)).setCell (Nat.le_refl _) _).drew⟩
      have HK1 : Aside0 (∀ k, k < W.heap.size → k ≠ p → W1.heap[k]? = W.heap[k]?) := ⟨fun k hk hp => by rw [← hW1]; exact (Below.heap_setCell W0 ⟨p, 1, none⟩ _ k hp).trans (HB0.out.block k hk)⟩
      have HC1 : Aside0 (CallAt W1 p ⟨y0, y1, y2, y3 + B⟩) := ⟨by rw [← hW1]; exact (blk_set HC0.out 1 _).trans rfl⟩
      have HS1 : Aside0 (W.heap.size < W1.heap.size) := ⟨by rw [← hW1]; exact Nat.lt_of_lt_of_le HS0.out (by simp)⟩
      have c0 : W1.cell? ⟨W.heap.size, 0, none⟩ = some (.int .i64 op) := by rw [← hW1]; exact blk_cell ((Below.heap_setCell W0 ⟨p, 1, none⟩ (.int .i64 (y3 + B)) W.heap.size (Nat.ne_of_gt HLT.out)).trans HX.out) 0
      have c3 : W1.cell? ⟨p, 3, none⟩ = some (.string y2) := blk_cell HC1.out 3
      rw [hW1]
      clear hW1 hW0 e0 e1 e2 hw b1 b2 HB0 HC0 HS0 HX
      go_wp2
      obtain ⟨t, ht⟩ : ∃ t, toOf op y2 = t := ⟨_, rfl⟩
      have HT := Aside0.mk ht
      rw [ht] at hF
      have HF := Aside0.mk hF
      clear ht hF
      go_region_held3 (fun w' => w'.cell? ⟨W.heap.size, 0, none⟩ = some (.int .i64 op) ∧ w'.cell? ⟨p, 3, none⟩ = some (.string y2)) (first | exact ⟨(HM.out.below.cell HS1.out).trans c0, (HM.out.below.cell (Nat.lt_trans HLT.out HS1.out)).trans c3⟩ | exact ⟨c0, c3⟩) (first
        | (go_at_call 23; (with_reducible refine (moves.calls W1.drew W1.heap.size rfl).mono ?_); rintro e W2 ⟨rfl, hm⟩; have HM := Aside0.mk hm; have l1 := look1 hm op HOP.out.1 HOP.out.2; have l2 := look2 hm op HOP.out.1 HOP.out.2 y2; have l3 := look1 hm.drew op HOP.out.1 HOP.out.2; have l4 := look2 hm.drew op HOP.out.1 HOP.out.2 y2; rw [HT.out] at l2 l4; clear hm))
      have HMB : Aside0 (Below W1.heap.size W1 W2) := ⟨((Below.refl W1.heap.size W1).drew).trans HM.out.below⟩
      have HC2 : Aside0 (CallAt W2 p ⟨y0, y1, y2, (y3 + B)⟩) := ⟨HC1.out.below HMB.out (Nat.lt_trans HLT.out HS1.out)⟩
      have HB2 : Aside0 (Below p W W2) := ⟨HB1.out.trans (HMB.out.mono (Nat.le_of_lt (Nat.lt_trans HLT.out HS1.out)))⟩
      have HK2 : Aside0 (∀ k, k < W.heap.size → k ≠ p → W2.heap[k]? = W.heap[k]?) := ⟨fun k hk hp => (HMB.out.block k (Nat.lt_trans hk HS1.out)).trans (HK1.out k hk hp)⟩
      have f3 : W2.frozen? ⟨p, 3, none⟩ = false := blk_frozen HC2.out 3
      have k3 : W2.cell? ⟨p, 3, none⟩ = some (.string y2) := blk_cell HC2.out 3
      clear l1 l2 l3 l4 c0 c3 HM
      cases t with
      | none =>
        have HF2 : Aside0 (takeC op B ⟨y0, y1, y2, y3⟩ = ⟨y0, y1, y2, (y3 + B)⟩) := ⟨HF.out⟩
        clear HF
        go_wp2
        go_end0
        exact ⟨rfl, by rw [HF2.out]; exact HC2.out, HB2.out, HK2.out⟩
      | some tt =>
        have HF2 : Aside0 (takeC op B ⟨y0, y1, y2, y3⟩ = ⟨y0, y1, tt, (y3 + B)⟩) := ⟨HF.out⟩
        clear HF
        go_wp2
        go_end0
        exact ⟨rfl, by rw [HF2.out]; exact (blk_set HC2.out 3 _).trans rfl, HB2.out.setCell (Nat.le_refl _) _, fun k hk hp => (Below.heap_setCell _ _ _ k hp).trans (HK2.out k hk hp)⟩
    · have hF : takeC op B ⟨y0, y1, y2, y3⟩ = ⟨y0, y1, (toOf op y2).getD y2, y3⟩ := by unfold takeC; rw [if_neg (fun k => q2 k.2)]
      have b1 : (op == 5) = true := beq_iff_eq.2 q1
      have b2 : (y2.toList == [116, 97, 108, 107, 115]) = false := by
        cases e : y2.toList == [116, 97, 108, 107, 115] with
        | false => rfl
        | true => exact absurd (ByteArray.ext (by have := beq_iff_eq.1 e; rw [ByteArray.toList_eq] at this; exact Array.ext' this)) q2
      clear q1 q2
      go_enter Tryd.func13, Tryd.ntmps13
      go_wp2
      clear k0
      obtain ⟨W1, hW1⟩ : ∃ W1, W.alloc (.cells #[.int .i64 op, .int .i64 a, .int .i64 B, .int .i64 c, .string s, .slice A5 n5 c5] 25) = W1 := ⟨_, rfl⟩
      have HB0 : Aside0 (Below W.heap.size W W1) := ⟨by rw [← hW1]; exact (Below.refl _ _).alloc (Nat.le_refl _) _⟩
      have HB1 : Aside0 (Below p W W1) := ⟨HB0.out.mono (Nat.le_of_lt HLT.out)⟩
      have HK1 : Aside0 (∀ k, k < W.heap.size → k ≠ p → W1.heap[k]? = W.heap[k]?) := ⟨fun k hk _ => HB0.out.block k hk⟩
      have HC1 : Aside0 (CallAt W1 p ⟨y0, y1, y2, y3⟩) := ⟨HP.out.below HB0.out HLT.out⟩
      have HS1 : Aside0 (W.heap.size < W1.heap.size) := ⟨by rw [← hW1, World.size_alloc]; omega⟩
      have c0 : W1.cell? ⟨W.heap.size, 0, none⟩ = some (.int .i64 op) := by rw [← hW1]; exact blk_cell (blk_new W _) 0
      have c3 : W1.cell? ⟨p, 3, none⟩ = some (.string y2) := blk_cell HC1.out 3
      clear HB0
      rw [hW1]
      clear hW1
      obtain ⟨t, ht⟩ : ∃ t, toOf op y2 = t := ⟨_, rfl⟩
      have HT := Aside0.mk ht
      rw [ht] at hF
      have HF := Aside0.mk hF
      clear ht hF
      go_region_held3 (fun w' => w'.cell? ⟨W.heap.size, 0, none⟩ = some (.int .i64 op) ∧ w'.cell? ⟨p, 3, none⟩ = some (.string y2)) (first | exact ⟨(HM.out.below.cell HS1.out).trans c0, (HM.out.below.cell (Nat.lt_trans HLT.out HS1.out)).trans c3⟩ | exact ⟨c0, c3⟩) (first
        | (go_at_call 23; (with_reducible refine (moves.calls W1.drew W1.heap.size rfl).mono ?_); rintro e W2 ⟨rfl, hm⟩; have HM := Aside0.mk hm; have l1 := look1 hm op HOP.out.1 HOP.out.2; have l2 := look2 hm op HOP.out.1 HOP.out.2 y2; have l3 := look1 hm.drew op HOP.out.1 HOP.out.2; have l4 := look2 hm.drew op HOP.out.1 HOP.out.2 y2; rw [HT.out] at l2 l4; clear hm))
      have HMB : Aside0 (Below W1.heap.size W1 W2) := ⟨((Below.refl W1.heap.size W1).drew).trans HM.out.below⟩
      have HC2 : Aside0 (CallAt W2 p ⟨y0, y1, y2, y3⟩) := ⟨HC1.out.below HMB.out (Nat.lt_trans HLT.out HS1.out)⟩
      have HB2 : Aside0 (Below p W W2) := ⟨HB1.out.trans (HMB.out.mono (Nat.le_of_lt (Nat.lt_trans HLT.out HS1.out)))⟩
      have HK2 : Aside0 (∀ k, k < W.heap.size → k ≠ p → W2.heap[k]? = W.heap[k]?) := ⟨fun k hk hp => (HMB.out.block k (Nat.lt_trans hk HS1.out)).trans (HK1.out k hk hp)⟩
      have f3 : W2.frozen? ⟨p, 3, none⟩ = false := blk_frozen HC2.out 3
      have k3 : W2.cell? ⟨p, 3, none⟩ = some (.string y2) := blk_cell HC2.out 3
      clear l1 l2 l3 l4 c0 c3 HM
      cases t with
      | none =>
        have HF2 : Aside0 (takeC op B ⟨y0, y1, y2, y3⟩ = ⟨y0, y1, y2, y3⟩) := ⟨HF.out⟩
        clear HF
        go_wp2
        go_end0
        exact ⟨rfl, by rw [HF2.out]; exact HC2.out, HB2.out, HK2.out⟩
      | some tt =>
        have HF2 : Aside0 (takeC op B ⟨y0, y1, y2, y3⟩ = ⟨y0, y1, tt, y3⟩) := ⟨HF.out⟩
        clear HF
        go_wp2
        go_end0
        exact ⟨rfl, by rw [HF2.out]; exact (blk_set HC2.out 3 _).trans rfl, HB2.out.setCell (Nat.le_refl _) _, fun k hk hp => (Below.heap_setCell _ _ _ k hp).trans (HK2.out k hk hp)⟩
  · have hF : takeC op B ⟨y0, y1, y2, y3⟩ = ⟨y0, y1, (toOf op y2).getD y2, y3⟩ := by unfold takeC; rw [if_neg (fun k => q1 k.1)]
    have b1 : (op == 5) = false := beq_eq_false_iff_ne.2 q1
    clear q1
    go_enter Tryd.func13, Tryd.ntmps13
    go_wp2
    clear k0
    obtain ⟨W1, hW1⟩ : ∃ W1, W.alloc (.cells #[.int .i64 op, .int .i64 a, .int .i64 B, .int .i64 c, .string s, .slice A5 n5 c5] 25) = W1 := ⟨_, rfl⟩
    have HB0 : Aside0 (Below W.heap.size W W1) := ⟨by rw [← hW1]; exact (Below.refl _ _).alloc (Nat.le_refl _) _⟩
    have HB1 : Aside0 (Below p W W1) := ⟨HB0.out.mono (Nat.le_of_lt HLT.out)⟩
    have HK1 : Aside0 (∀ k, k < W.heap.size → k ≠ p → W1.heap[k]? = W.heap[k]?) := ⟨fun k hk _ => HB0.out.block k hk⟩
    have HC1 : Aside0 (CallAt W1 p ⟨y0, y1, y2, y3⟩) := ⟨HP.out.below HB0.out HLT.out⟩
    have HS1 : Aside0 (W.heap.size < W1.heap.size) := ⟨by rw [← hW1, World.size_alloc]; omega⟩
    have c0 : W1.cell? ⟨W.heap.size, 0, none⟩ = some (.int .i64 op) := by rw [← hW1]; exact blk_cell (blk_new W _) 0
    have c3 : W1.cell? ⟨p, 3, none⟩ = some (.string y2) := blk_cell HC1.out 3
    clear HB0
    rw [hW1]
    clear hW1
    obtain ⟨t, ht⟩ : ∃ t, toOf op y2 = t := ⟨_, rfl⟩
    have HT := Aside0.mk ht
    rw [ht] at hF
    have HF := Aside0.mk hF
    clear ht hF
    go_region_held3 (fun w' => w'.cell? ⟨W.heap.size, 0, none⟩ = some (.int .i64 op) ∧ w'.cell? ⟨p, 3, none⟩ = some (.string y2)) (first | exact ⟨(HM.out.below.cell HS1.out).trans c0, (HM.out.below.cell (Nat.lt_trans HLT.out HS1.out)).trans c3⟩ | exact ⟨c0, c3⟩) (first
      | (go_at_call 23; (with_reducible refine (moves.calls W1.drew W1.heap.size rfl).mono ?_); rintro e W2 ⟨rfl, hm⟩; have HM := Aside0.mk hm; have l1 := look1 hm op HOP.out.1 HOP.out.2; have l2 := look2 hm op HOP.out.1 HOP.out.2 y2; have l3 := look1 hm.drew op HOP.out.1 HOP.out.2; have l4 := look2 hm.drew op HOP.out.1 HOP.out.2 y2; rw [HT.out] at l2 l4; clear hm))
    have HMB : Aside0 (Below W1.heap.size W1 W2) := ⟨((Below.refl W1.heap.size W1).drew).trans HM.out.below⟩
    have HC2 : Aside0 (CallAt W2 p ⟨y0, y1, y2, y3⟩) := ⟨HC1.out.below HMB.out (Nat.lt_trans HLT.out HS1.out)⟩
    have HB2 : Aside0 (Below p W W2) := ⟨HB1.out.trans (HMB.out.mono (Nat.le_of_lt (Nat.lt_trans HLT.out HS1.out)))⟩
    have HK2 : Aside0 (∀ k, k < W.heap.size → k ≠ p → W2.heap[k]? = W.heap[k]?) := ⟨fun k hk hp => (HMB.out.block k (Nat.lt_trans hk HS1.out)).trans (HK1.out k hk hp)⟩
    have f3 : W2.frozen? ⟨p, 3, none⟩ = false := blk_frozen HC2.out 3
    have k3 : W2.cell? ⟨p, 3, none⟩ = some (.string y2) := blk_cell HC2.out 3
    clear l1 l2 l3 l4 c0 c3 HM
    cases t with
    | none =>
      have HF2 : Aside0 (takeC op B ⟨y0, y1, y2, y3⟩ = ⟨y0, y1, y2, y3⟩) := ⟨HF.out⟩
      clear HF
      go_wp2
      go_end0
      exact ⟨rfl, by rw [HF2.out]; exact HC2.out, HB2.out, HK2.out⟩
    | some tt =>
      have HF2 : Aside0 (takeC op B ⟨y0, y1, y2, y3⟩ = ⟨y0, y1, tt, y3⟩) := ⟨HF.out⟩
      clear HF
      go_wp2
      go_end0
      exact ⟨rfl, by rw [HF2.out]; exact (blk_set HC2.out 3 _).trans rfl, HB2.out.setCell (Nat.le_refl _) _, fun k hk hp => (Below.heap_setCell _ _ _ k hp).trans (HK2.out k hk hp)⟩
end Go.Proofs.YtbloalfgbpgepaaDoor.T
