/- The stream of a key in plain Lean, on: blocks and streams of both sides. Conditions: the bytes are bytes, the lengths right. -/
import Derived.Test.YtpkmfaloncclaaaK1
import Derived.Test.YtpkmfaloncclaaaKx2
import Derived.Test.YtpkmfaloncclaaaKx4
import Derived.Test.YtpkmfaloncclaaaKx5
import Derived.Test.YtpkmfaloncclaaaKx6
import Derived.Test.YtpkmfaloncclaaaKx8
namespace Go.Proofs.Ytpkmfaloncclaaa.Pure
open Go Go.RowKit Go.Proofs.Ytpkmfaloncclaaa.K Go.Proofs.YtpkmfaloncclaaaW.PrintWords Go.Proofs.YtpkmfaloncclaaaW.PrintLast Go.Proofs.YtpkmfaloncclaaaW.PrintMore Hand
set_option linter.unusedVariables false
theorem byteL_of {l : List Int} (h : ∀ x ∈ l, (Lit.int .u8 x).wf = true) : ByteL l := fun x hx => wf8 (h x hx)
theorem all_of {l : List Int} (h : ByteL l) : l.all isByteK = true := List.all_eq_true.2 fun x hx => by
  have := h x hx
  simp [isByteK, this.1, this.2]
theorem low_from (l : List Int) (hb : ByteL l) (hl : l.length ≤ 4) : ∀ (i : Nat), i ≤ l.length → wireglassref21_low.l0 (i + 1) l (leN (l.drop i)) ((i : Int) - 1) = some (leN l)
  | 0, _ => by
    rw [wireglassref21_low.l0, if_neg (by omega), List.drop_zero]
  | i + 1, h => by
    have hlt : i < l.length := by omega
    have hd : l.drop i = l[i] :: l.drop (i + 1) := List.drop_eq_getElem_cons hlt
    have hx := hb _ (List.getElem_mem hlt)
    have hbd := leN_bd (l.drop (i + 1)) (fun y hy => hb y (List.mem_of_mem_drop hy))
    have hp : (256 : Int) ^ (l.drop (i + 1)).length ≤ 16777216 := by
      have h2 : ∀ i : Fin 4, (256 : Int) ^ i.val ≤ 16777216 := by decide
      exact h2 ⟨_, by rw [List.length_drop]; omega⟩
    rw [wireglassref21_low.l0, if_pos (by omega), if_pos (by omega), if_pos (by omega), show ((i + 1 : Nat) : Int) - 1 = (i : Int) by omega, rd_at hlt, w64 (n := 256 * leN (l.drop (i + 1))) (by omega) (by omega), w64 (n := l[i]) (by omega) (by omega), w64 (n := (i : Int) - 1) (by omega) (by omega), w64 (by omega) (by omega)]
    have ih := low_from l hb hl i (by omega)
    rw [hd, leN, Int.add_comm] at ih
    exact ih
theorem low_ev {l : List Int} (hb : ByteL l) (hl : l.length ≤ 4) : Ev (fun k => wireglassref21_low.f k l) (leN l) := by
  refine Ev.of (fun k => wireglassref21_low.mono l k) (k := l.length + 1) ?_
  have := low_from l hb hl l.length (Nat.le_refl _)
  rw [List.drop_length] at this
  unfold wireglassref21_low.f
  rw [w64 (by omega) (by omega)]
  exact this
def lowsN (l : List Int) : Nat → List Int
  | 0 => []
  | i + 1 => lowsN l i ++ [leN ((l.drop (4 * i)).take 4)]
theorem lowsN_length (l : List Int) : ∀ i, (lowsN l i).length = i
  | 0 => rfl
  | i + 1 => by rw [lowsN, List.length_append, lowsN_length l i]; rfl
def consts : List Int := [1634760805, 857760878, 2036477234, 1797285236]
theorem key_lo {l : List Int} (hb : ByteL l) (i : Nat) : blkKey l i = leN ((l.drop (4 * i)).take 4) := by
  have hbd := leN_bd ((l.drop (4 * i)).take 4) (fun x hx => hb x (List.mem_of_mem_drop (List.mem_of_mem_take hx)))
  have hl : ((l.drop (4 * i)).take 4).length ≤ 4 := by rw [List.length_take]; omega
  have hp : (256 : Int) ^ ((l.drop (4 * i)).take 4).length ≤ 4294967296 := by
    have h2 : ∀ i : Fin 5, (256 : Int) ^ i.val ≤ 4294967296 := by decide
    exact h2 ⟨_, by omega⟩
  unfold blkKey
  rw [IntKind.wrap_u32]
  exact Int.emod_eq_of_lt hbd.1 (by omega)
theorem blkB_is {l l2 : List Int} (h : ByteL l) (h2 : ByteL l2) {n : Int} (h0 : 0 ≤ n) (h1 : n < 4294967296) : blkB l n l2 3 = consts ++ lowsN l 8 ++ [n] ++ lowsN l2 3 := by
  have e : IntKind.u32.wrap n = n := by rw [IntKind.wrap_u32]; exact Int.emod_eq_of_lt h0 h1
  have e1 : blkB l n l2 3 = [1634760805, 857760878, 2036477234, 1797285236, blkKey l 0, blkKey l 1, blkKey l 2, blkKey l 3, blkKey l 4, blkKey l 5, blkKey l 6, blkKey l 7, IntKind.u32.wrap n, blkKey l2 0, blkKey l2 1, blkKey l2 2] := rfl
  rw [e1, e]
  simp only [key_lo h, key_lo h2]
  rfl
theorem low4 (s : Int) : [s % 256, (s / 256) % 256, (s / 65536) % 256, (s / 16777216) % 256] = lowN 4 s := by
  have e1 : s / 65536 = s / 256 / 256 := by omega
  have e2 : s / 16777216 = s / 256 / 256 / 256 := by omega
  rw [e1, e2]; rfl
theorem blk_l5 {x7 x10 : List Int} (h7 : Words x7) (h10 : Words x10) : ∀ (d i : Nat), i + d = 16 → Ev (fun k => wireglassref21_block.l5 k x7 x10 (outN x10 x7 i) (i : Int)) (outN x10 x7 16)
  | 0, i, h => by
    obtain rfl : i = 16 := by omega
    exact Ev.step (f := fun _ => some _) (fun k => by rw [wireglassref21_block.l5, if_neg (by omega)]) (Ev.now _)
  | d + 1, i, h => by
    have hi : i < 16 := by omega
    have hl7 := h7.1
    have hl10 := h10.1
    have hs := sum_w (h10.at_ hi) (h7.at_ hi)
    refine Ev.step (f := fun k => wireglassref21_block.l5 k x7 x10 (outN x10 x7 (i + 1)) ((i + 1 : Nat) : Int)) (fun k => ?_) (blk_l5 h7 h10 d (i + 1) (by omega))
    rw [wireglassref21_block.l5, if_pos (by omega), if_pos (by omega), if_pos (by omega), if_pos (by omega), rd_nat, rd_nat, hs]
    simp only [Option.bind_some]
    rw [low4, if_pos (by rw [outN_length, lowN_length]; omega), w64 (by omega) (by omega)]
    rfl
theorem blk_l3 {x7 Y : List Int} (hY : Words Y) (x11 : Int) {r : List Int} (hr : Ev (fun k => wireglassref21_block.l4 k x7 (colsN Y 4) x11 0) r) : ∀ (d j : Nat), j + d = 4 → Ev (fun k => wireglassref21_block.l3 k x7 (colsN Y j) x11 (j : Int)) r
  | 0, j, h => by
    obtain rfl : j = 4 := by omega
    exact Ev.step (f := fun k => wireglassref21_block.l4 k x7 (colsN Y 4) x11 0) (fun k => by rw [wireglassref21_block.l3, if_neg (by omega)]) hr
  | d + 1, j, h => by
    have hj : j < 4 := by omega
    refine Ev.step (f := fun k => wireglassref21_block.l3 k x7 (colsN Y (j + 1)) x11 ((j + 1 : Nat) : Int)) (fun k => ?_) (blk_l3 hY x11 hr d (j + 1) (by omega))
    rw [wireglassref21_block.l3, if_pos (by omega), w64 (n := 4 + (j : Int)) (by omega) (by omega), w64 (n := 8 + (j : Int)) (by omega) (by omega), w64 (n := 12 + (j : Int)) (by omega) (by omega), w64 (n := (j : Int) + 1) (by omega) (by omega),
      show 4 + (j : Int) = ((j + 4 : Nat) : Int) by omega, show 8 + (j : Int) = ((j + 8 : Nat) : Int) by omega, show 12 + (j : Int) = ((j + 12 : Nat) : Int) by omega,
      rquarter (colsN_words hY j (by omega)) (by omega) (by omega) (by omega) (by omega) ⟨⟨by omega, by omega, by omega⟩, ⟨by omega, by omega⟩, by omega⟩]
    rfl
theorem diag_at (j c : Nat) (m : Int) (hj : j < 4) (hc : c ≤ 3) (hm : m = (c : Int)) (b : Int) (hb : 0 ≤ b) (hb2 : b ≤ 12) : wrap64 (b + Int.tmod (wrap64 ((j : Int) + m)) 4) = b + (((j + c) % 4 : Nat) : Int) := by
  subst hm
  rw [w64 (n := (j : Int) + (c : Int)) (by omega) (by omega), tmod_pos (by omega), w64 (by omega) (by omega)]
  omega
theorem blk_l4 {x7 V : List Int} (hV : Words V) (x11 : Int) {r : List Int} (hr : Ev (fun k => wireglassref21_block.l2 k x7 (diagsN V 4) (wrap64 (x11 + 1))) r) : ∀ (d j : Nat), j + d = 4 → Ev (fun k => wireglassref21_block.l4 k x7 (diagsN V j) x11 (j : Int)) r
  | 0, j, h => by
    obtain rfl : j = 4 := by omega
    exact Ev.step (f := fun k => wireglassref21_block.l2 k x7 (diagsN V 4) (wrap64 (x11 + 1))) (fun k => by rw [wireglassref21_block.l4, if_neg (by omega)]) hr
  | d + 1, j, h => by
    have hj : j < 4 := by omega
    refine Ev.step (f := fun k => wireglassref21_block.l4 k x7 (diagsN V (j + 1)) x11 ((j + 1 : Nat) : Int)) (fun k => ?_) (blk_l4 hV x11 hr d (j + 1) (by omega))
    rw [wireglassref21_block.l4, if_pos (by omega), diag_at j 1 1 hj (by decide) rfl 4 (by decide) (by decide), diag_at j 2 2 hj (by decide) rfl 8 (by decide) (by decide), diag_at j 3 3 hj (by decide) rfl 12 (by decide) (by decide), w64 (n := (j : Int) + 1) (by omega) (by omega),
      show (4 : Int) + (((j + 1) % 4 : Nat) : Int) = ((4 + (j + 1) % 4 : Nat) : Int) by omega, show (8 : Int) + (((j + 2) % 4 : Nat) : Int) = ((8 + (j + 2) % 4 : Nat) : Int) by omega, show (12 : Int) + (((j + 3) % 4 : Nat) : Int) = ((12 + (j + 3) % 4 : Nat) : Int) by omega,
      rquarter (diagsN_words hV j (by omega)) (by omega) (by omega) (by omega) (by omega) ⟨⟨by omega, by omega, by omega⟩, ⟨by omega, by omega⟩, by omega⟩]
    rfl
theorem blk_l2 {X : List Int} (hX : Words X) : ∀ (d i : Nat), i + d = 10 → Ev (fun k => wireglassref21_block.l2 k X (mixN X i) (i : Int)) (outN (mixN X 10) X 16)
  | 0, i, h => by
    obtain rfl : i = 10 := by omega
    exact Ev.step (f := fun k => wireglassref21_block.l5 k X (mixN X 10) [] 0) (fun k => by rw [wireglassref21_block.l2, if_neg (by omega)]) (blk_l5 hX (mixN_words hX 10) 16 0 rfl)
  | d + 1, i, h => by
    have hi : i < 10 := by omega
    have ih := blk_l2 hX d (i + 1) (by omega)
    refine Ev.step (f := fun k => wireglassref21_block.l3 k X (mixN X i) (i : Int) 0) (fun k => by rw [wireglassref21_block.l2, if_pos (by omega)]) ?_
    refine blk_l3 (mixN_words hX i) (i : Int) ?_ 4 0 rfl
    refine blk_l4 (colsN_words (mixN_words hX i) 4 (by decide)) (i : Int) ?_ 4 0 rfl
    rw [w64 (by omega) (by omega)]
    exact ih
theorem cut_eq {l : List Int} {i : Nat} : (l.take (((4 * i + 4 : Nat) : Int)).toNat).drop (((4 * i : Nat) : Int)).toNat = (l.drop (4 * i)).take 4 := by
  rw [Int.toNat_natCast, Int.toNat_natCast, List.drop_take]; congr 1; omega
theorem byteL_part {l : List Int} (h : ByteL l) (i : Nat) : ByteL ((l.drop (4 * i)).take 4) := fun x hx => h x (List.mem_of_mem_drop (List.mem_of_mem_take hx))
theorem blk_l1 {l2 : List Int} (hb2 : ByteL l2) (hl2 : l2.length = 12) (pre : List Int) (hp : pre.length = 13) {r : List Int} (hr : Ev (fun k => wireglassref21_block.l2 k (pre ++ lowsN l2 3) (pre ++ lowsN l2 3) 0) r) : ∀ (d i : Nat), i + d = 3 → Ev (fun k => wireglassref21_block.l1 k l2 (pre ++ lowsN l2 i) (i : Int)) r
  | 0, i, h => by
    obtain rfl : i = 3 := by omega
    exact Ev.step (f := fun k => wireglassref21_block.l2 k (pre ++ lowsN l2 3) (pre ++ lowsN l2 3) 0) (fun k => by rw [wireglassref21_block.l1, if_neg (by omega), if_pos (by simp only [List.length_append, lowsN_length, hp, List.length_nil]; omega), List.nil_append]) hr
  | d + 1, i, h => by
    have hi : i < 3 := by omega
    have e1 : wrap64 (4 * (i : Int)) = ((4 * i : Nat) : Int) := by rw [w64] <;> omega
    have e2 : wrap64 (((4 * i : Nat) : Int) + 4) = ((4 * i + 4 : Nat) : Int) := by rw [w64] <;> omega
    refine Ev.step (f := fun k => (wireglassref21_low.f k ((l2.drop (4 * i)).take 4)).bind fun t => wireglassref21_block.l1 k l2 (pre ++ lowsN l2 i ++ [t]) ((i + 1 : Nat) : Int)) (fun k => ?_) ?_
    · rw [wireglassref21_block.l1, if_pos (by omega), e1, e2, if_pos (by omega), if_pos (by omega), if_pos (by omega), cut_eq]
      congr 1
      funext t
      rw [if_pos (by simp only [List.length_append, lowsN_length, hp]; omega), w64 (by omega) (by omega)]
      rfl
    · refine Ev.bind (low_ev (byteL_part hb2 i) (by rw [List.length_take]; omega)) ?_
      have ih := blk_l1 hb2 hl2 pre hp hr d (i + 1) (by omega)
      rw [lowsN, ← List.append_assoc] at ih
      exact ih
theorem blk_l0 {l l2 : List Int} (hb : ByteL l) (hl : l.length = 32) (n : Int) {r : List Int} (hr : Ev (fun k => wireglassref21_block.l1 k l2 (consts ++ lowsN l 8 ++ [n]) 0) r) : ∀ (d i : Nat), i + d = 8 → Ev (fun k => wireglassref21_block.l0 k l n l2 (consts ++ lowsN l i) (i : Int)) r
  | 0, i, h => by
    obtain rfl : i = 8 := by omega
    exact Ev.step (f := fun k => wireglassref21_block.l1 k l2 (consts ++ lowsN l 8 ++ [n]) 0) (fun k => by rw [wireglassref21_block.l0, if_neg (by omega), if_pos (by simp only [List.length_append, lowsN_length, consts, List.length_cons, List.length_nil]; omega)]) hr
  | d + 1, i, h => by
    have hi : i < 8 := by omega
    have e1 : wrap64 (4 * (i : Int)) = ((4 * i : Nat) : Int) := by rw [w64] <;> omega
    have e2 : wrap64 (((4 * i : Nat) : Int) + 4) = ((4 * i + 4 : Nat) : Int) := by rw [w64] <;> omega
    refine Ev.step (f := fun k => (wireglassref21_low.f k ((l.drop (4 * i)).take 4)).bind fun t => wireglassref21_block.l0 k l n l2 (consts ++ lowsN l i ++ [t]) ((i + 1 : Nat) : Int)) (fun k => ?_) ?_
    · rw [wireglassref21_block.l0, if_pos (by omega), e1, e2, if_pos (by omega), if_pos (by omega), if_pos (by omega), cut_eq]
      congr 1
      funext t
      rw [if_pos (by simp only [List.length_append, lowsN_length, consts, List.length_cons, List.length_nil]; omega), w64 (by omega) (by omega)]
      rfl
    · refine Ev.bind (low_ev (byteL_part hb i) (by rw [List.length_take]; omega)) ?_
      have ih := blk_l0 hb hl n hr d (i + 1) (by omega)
      rw [lowsN, ← List.append_assoc] at ih
      exact ih
theorem block_ev {l l2 : List Int} (hb : ByteL l) (hl : l.length = 32) (hb2 : ByteL l2) (hl2 : l2.length = 12) {n : Int} (h0 : 0 ≤ n) (h1 : n < 4294967296) : Ev (fun k => wireglassref21_block.f k l n l2) (blockOf l n l2) := by
  have hw := blkB_words l n l2 3
  have e := blkB_is hb hb2 h0 h1
  have h := blk_l2 hw 10 0 rfl
  show Ev (fun k => wireglassref21_block.l0 k l n l2 consts 0) (outN (mixN (blkB l n l2 3) 10) (blkB l n l2 3) 16)
  rw [mixN, e] at h
  rw [e]
  have h2 := blk_l1 hb2 hl2 (consts ++ lowsN l 8 ++ [n]) (by simp only [List.length_append, lowsN_length]; rfl) h 3 0 rfl
  rw [lowsN, List.append_nil] at h2
  have h3 := blk_l0 (l2 := l2) hb hl n h2 8 0 rfl
  rw [lowsN, List.append_nil] at h3
  exact h3
theorem block_key {l l2 : List Int} (hb : ByteL l) (hl : l.length = 32) (hb2 : ByteL l2) (hl2 : l2.length = 12) (n : Int) : key_block.f l n l2 = some (blockOf l n l2) := by
  unfold key_block.f
  rw [if_pos ⟨⟨hl, hl2⟩, all_of hb, all_of hb2⟩]
theorem blockOf_length (l : List Int) (n : Int) (l2 : List Int) : (blockOf l n l2).length = 64 := outN_length _ _ _
theorem lowN_byte : ∀ (n : Nat) (v : Int), ByteL (lowN n v)
  | 0, _ => by intro x hx; cases hx
  | n + 1, v => by
    intro x hx
    rw [lowN] at hx
    rcases List.mem_cons.1 hx with rfl | hx
    · omega
    · exact lowN_byte n _ x hx
theorem outN_byte (xs ys : List Int) : ∀ i, ByteL (outN xs ys i)
  | 0 => by intro x hx; cases hx
  | i + 1 => by
    intro x hx
    rw [outN] at hx
    rcases List.mem_append.1 hx with hx | hx
    · exact outN_byte xs ys i x hx
    · exact lowN_byte 4 _ x hx
/-- The stream: blocks one behind the other, and their begin. -/
def blocksN (l : List Int) (at_ : Int) (l2 : List Int) : Nat → List Int
  | 0 => []
  | d + 1 => blockOf l at_ l2 ++ blocksN l (at_ + 1) l2 d
theorem blocksN_length (l l2 : List Int) : ∀ (d : Nat) (at_ : Int), (blocksN l at_ l2 d).length = 64 * d
  | 0, _ => rfl
  | d + 1, at_ => by rw [blocksN, List.length_append, blockOf_length, blocksN_length l l2 d]; omega
theorem blocksN_byte (l l2 : List Int) : ∀ (d : Nat) (at_ : Int), ByteL (blocksN l at_ l2 d)
  | 0, _ => by intro x hx; cases hx
  | d + 1, at_ => by
    intro x hx
    rw [blocksN] at hx
    rcases List.mem_append.1 hx with hx | hx
    · exact outN_byte _ _ _ x hx
    · exact blocksN_byte l l2 d _ x hx
def streamOf (l : List Int) (at_ : Int) (l2 : List Int) (n : Int) : List Int := (blocksN l at_ l2 ((n + 63) / 64).toNat).take n.toNat
theorem streamOf_byte (l : List Int) (at_ : Int) (l2 : List Int) (n : Int) : ByteL (streamOf l at_ l2 n) := fun x hx => blocksN_byte _ _ _ _ x (List.mem_of_mem_take hx)
theorem streamOf_length (l : List Int) (at_ : Int) (l2 : List Int) {n : Int} (h : 0 ≤ n) : ((streamOf l at_ l2 n).length : Int) = n := by
  unfold streamOf
  rw [List.length_take, blocksN_length]
  omega
theorem stream_both {l l2 : List Int} (hb : ByteL l) (hl : l.length = 32) (hb2 : ByteL l2) (hl2 : l2.length = 12) {n : Int} (hn0 : 0 ≤ n) (hn1 : n ≤ 131072) : ∀ (d : Nat) (out : List Int) (at_ : Int), ((n - (out.length : Int) + 63) / 64).toNat = d → (out.length : Int) ≤ 200000 → 0 ≤ at_ → at_ + d ≤ 4294967296 →
    Ev (fun k => key_Stream.l0 k l l2 n out at_) ((out ++ blocksN l at_ l2 d).take n.toNat, 0) ∧ Ev (fun k => wireglassref21_stream.l0 k l at_ l2 n out) ((out ++ blocksN l at_ l2 d).take n.toNat)
  | 0, out, at_, hd, ho, h0, h1 => by
    have hno : ¬ (out.length : Int) < n := by omega
    rw [blocksN, List.append_nil]
    exact ⟨Ev.step (f := fun _ => some _) (fun k => by rw [key_Stream.l0, if_neg hno, if_pos hn0, if_pos (by omega)]) (Ev.now _), Ev.step (f := fun _ => some _) (fun k => by rw [wireglassref21_stream.l0, if_neg hno, if_pos hn0, if_pos (by omega)]) (Ev.now _)⟩
  | d + 1, out, at_, hd, ho, h0, h1 => by
    have hlt : (out.length : Int) < n := by omega
    have hbl := blockOf_length l at_ l2
    obtain ⟨i1, i2⟩ := stream_both hb hl hb2 hl2 hn0 hn1 d (out ++ blockOf l at_ l2) (at_ + 1) (by rw [List.length_append, hbl]; omega) (by rw [List.length_append, hbl]; omega) (by omega) (by omega)
    rw [blocksN, ← List.append_assoc]
    refine ⟨Ev.step (f := fun k => key_Stream.l0 k l l2 n (out ++ blockOf l at_ l2) (at_ + 1)) (fun k => ?_) i1, ?_⟩
    · rw [key_Stream.l0, if_pos hlt, block_key hb hl hb2 hl2]
      simp only [Option.bind_some]
      rw [if_pos (by rw [hbl]; omega), w64 (by omega) (by omega)]
    · refine Ev.step (f := fun k => (wireglassref21_block.f k l at_ l2).bind fun t => if out.length + t.length < 140737488355328 then wireglassref21_stream.l0 k l (wrap64 (at_ + 1)) l2 n (out ++ t) else none) (fun k => by rw [wireglassref21_stream.l0, if_pos hlt]) ?_
      refine Ev.bind (block_ev hb hl hb2 hl2 h0 (by omega)) (Ev.if_pos (by rw [hbl]; omega) ?_)
      rw [w64 (by omega) (by omega)]
      exact i2
/-- What is answered: bytes and an error. -/
def streamA (l : List Int) (at_ : Int) (l2 : List Int) (n : Int) : List Int × Int :=
  if (l.length = 32 ∧ l2.length = 12) ∧ (0 ≤ at_ ∧ at_ < 4294967296) ∧ (0 ≤ n ∧ n ≤ 4000) ∧ at_ + (n + 63) / 64 ≤ 4294967296 then (streamOf l at_ l2 n, 0) else ([], 1)
theorem stream_key {l l2 : List Int} (hb : ByteL l) (hb2 : ByteL l2) {a n : Int} (ha : (Lit.int .i64 a).wf = true) (hn : (Lit.int .i64 n).wf = true) : Ev (fun k => key_Stream.f k l a l2 n) (streamA l a l2 n) ∧ Ev (fun k => wireglassref21_Stream.f k l a l2 n) (streamA l a l2 n) := by
  have ha2 := wf64 ha
  have hn2 := wf64 hn
  have no : ∀ b, b = true → Ev (fun k => key_Stream.j0 k l a l2 n b) ([], 1) := fun b hb => Ev.step (f := fun _ => some ([], 1)) (fun k => by rw [key_Stream.j0, if_pos hb]) (Ev.now _)
  unfold key_Stream.f wireglassref21_Stream.f streamA
  by_cases c1 : (l.length : Int) = 32
  · by_cases c2 : (l2.length : Int) = 12
    · by_cases c3 : a < 0
      · rw [if_neg (by omega)]
        exact ⟨Ev.if_pos c1 (Ev.if_pos c2 (Ev.if_pos c3 (no _ rfl))), Ev.if_pos c1 (Ev.if_pos c2 (Ev.if_pos c3 (Ev.now _)))⟩
      by_cases c4 : a > 4294967295
      · rw [if_neg (by omega)]
        exact ⟨Ev.if_pos c1 (Ev.if_pos c2 (Ev.if_neg c3 (Ev.if_pos c4 (no _ rfl)))), Ev.if_pos c1 (Ev.if_pos c2 (Ev.if_neg c3 (Ev.if_pos (by omega) (Ev.now _))))⟩
      by_cases c5 : n < 0
      · rw [if_neg (by omega)]
        exact ⟨Ev.if_pos c1 (Ev.if_pos c2 (Ev.if_neg c3 (Ev.if_neg c4 (Ev.if_pos c5 (no _ rfl))))), Ev.if_pos c1 (Ev.if_pos c2 (Ev.if_neg c3 (Ev.if_neg (by omega) (Ev.if_pos c5 (Ev.now _)))))⟩
      by_cases c6 : n > 4000
      · rw [if_neg (by omega)]
        exact ⟨Ev.if_pos c1 (Ev.if_pos c2 (Ev.if_neg c3 (Ev.if_neg c4 (Ev.if_neg c5 (Ev.if_pos c6 (no _ rfl)))))), Ev.if_pos c1 (Ev.if_pos c2 (Ev.if_neg c3 (Ev.if_neg (by omega) (Ev.if_neg c5 (Ev.if_pos c6 (Ev.now _))))))⟩
      have e1 : wrap64 (wrap64 (a + wrap64 (Int.tdiv (wrap64 (wrap64 (n + 64) - 1)) 64)) - 1) = a + (n + 63) / 64 - 1 := by
        rw [w64 (n := n + 64) (by omega) (by omega), w64 (n := n + 64 - 1) (by omega) (by omega), tdiv_pos (by omega), w64 (n := (n + 64 - 1) / 64) (by omega) (by omega), show n + 64 - 1 = n + 63 by omega, w64 (n := a + (n + 63) / 64) (by omega) (by omega), w64 (by omega) (by omega)]
      have e2 : wrap64 (a + wrap64 (Int.tdiv (wrap64 (n + 63)) 64)) = a + (n + 63) / 64 := by
        rw [w64 (n := n + 63) (by omega) (by omega), tdiv_pos (by omega), w64 (n := (n + 63) / 64) (by omega) (by omega), w64 (by omega) (by omega)]
      rw [e1, e2]
      clear e1 e2
      by_cases c7 : a + (n + 63) / 64 > 4294967296
      · rw [if_neg (by omega)]
        exact ⟨Ev.if_pos c1 (Ev.if_pos c2 (Ev.if_neg c3 (Ev.if_neg c4 (Ev.if_neg c5 (Ev.if_neg c6 (no _ (decide_eq_true (by omega)))))))), Ev.if_pos c1 (Ev.if_pos c2 (Ev.if_neg c3 (Ev.if_neg (by omega) (Ev.if_neg c5 (Ev.if_neg c6 (Ev.if_pos c7 (Ev.now _)))))))⟩
      · rw [if_pos ⟨⟨by omega, by omega⟩, ⟨by omega, by omega⟩, ⟨by omega, by omega⟩, by omega⟩]
        obtain ⟨h1, h2⟩ := stream_both hb (by omega) hb2 (by omega) (n := n) (by omega) (by omega) ((n + 63) / 64).toNat [] a (by simp) (by simp) (by omega) (by omega)
        rw [List.nil_append] at h1 h2
        refine ⟨Ev.if_pos c1 (Ev.if_pos c2 (Ev.if_neg c3 (Ev.if_neg c4 (Ev.if_neg c5 (Ev.if_neg c6 ?_))))), Ev.if_pos c1 (Ev.if_pos c2 (Ev.if_neg c3 (Ev.if_neg (by omega) (Ev.if_neg c5 (Ev.if_neg c6 (Ev.if_neg c7 ?_))))))⟩
        · exact Ev.step (f := fun k => key_Stream.l0 k l l2 n [] a) (fun k => by rw [key_Stream.j0, if_neg (by simp; omega)]) h1
        · exact Ev.bind h2 (Ev.now _)
    · rw [if_neg (by omega)]
      exact ⟨Ev.if_pos c1 (Ev.if_neg c2 (no _ rfl)), Ev.if_pos c1 (Ev.if_neg c2 (Ev.now _))⟩
  · rw [if_neg (by omega)]
    exact ⟨Ev.if_neg c1 (no _ rfl), Ev.if_neg c1 (Ev.now _)⟩
end Go.Proofs.Ytpkmfaloncclaaa.Pure
