/- Sessions of records in plain Lean: nonces, closed bodies, tags, records, tickets, and that both sides make the same of them. Conditions: as each lemma says. -/
import Derived.Test.YtpkmfaloncclaaaK2
import Derived.Test.YtpkmfaloncclaaaKx1
import Derived.Test.YtpkmfaloncclaaaKx3
import Derived.Test.YtpkmfaloncclaaaKx4
import Derived.Test.YtpkmfaloncclaaaKx6
import Derived.Test.YtpkmfaloncclaaaKx7
import Derived.Test.YtpkmfaloncclaaaKx8
namespace Go.Proofs.Ytpkmfaloncclaaa.T
open Go Go.RowKit Go.Proofs.Ytpkmfaloncclaaa.K Go.Proofs.Ytpkmfaloncclaaa.Pure Go.Proofs.YtpkmfaloncclaaaW.PrintWords Go.Proofs.YtpkmfaloncclaaaW.PrintLast Go.Proofs.YtpkmfaloncclaaaW.PrintMore Hand
set_option linter.unusedVariables false
/-- A number in four bytes and in two, the highest first. -/
def be4 (n : Int) : List Int := [n / 16777216 % 256, n / 65536 % 256, n / 256 % 256, n % 256]
def be2 (n : Int) : List Int := [n / 256 % 256, n % 256]
def nonceOf (n : Int) : List Int := List.replicate 8 0 ++ be4 n
theorem be4_byte (n : Int) : ByteL (be4 n) := by
  intro x hx
  simp only [be4, List.mem_cons, List.not_mem_nil, or_false] at hx
  rcases hx with rfl | rfl | rfl | rfl <;> omega
theorem be2_byte (n : Int) : ByteL (be2 n) := by
  intro x hx
  simp only [be2, List.mem_cons, List.not_mem_nil, or_false] at hx
  rcases hx with rfl | rfl <;> omega
theorem zeros_byte (n : Nat) : ByteL (List.replicate n (0 : Int)) := by
  intro x hx
  obtain ⟨_, rfl⟩ := List.mem_replicate.1 hx
  omega
theorem nonceOf_length (n : Int) : (nonceOf n).length = 12 := rfl
theorem nonceOf_byte (n : Int) : ByteL (nonceOf n) := byteL_append (zeros_byte 8) (be4_byte n)
/-- A body and what it is closed with. -/
def xorL : List Int → List Int → List Int
  | a :: x, b :: y => xr a b :: xorL x y
  | _, _ => []
theorem xorL_length : ∀ (x y : List Int), x.length ≤ y.length → (xorL x y).length = x.length
  | [], _, _ => by simp [xorL]
  | a :: x, [], h => by simp at h
  | a :: x, b :: y, h => by
    rw [xorL, List.length_cons, List.length_cons, xorL_length x y (by simpa using h)]
theorem xr8 {a b : Int} (h1 : 0 ≤ a) (h2 : a ≤ 255) (h3 : 0 ≤ b) (h4 : b ≤ 255) : 0 ≤ xr a b ∧ xr a b ≤ 255 := by
  have := xr_bd (a := a) (b := b) 8 (by have : (2 : Int) ^ 8 = 256 := rfl; omega) (by have : (2 : Int) ^ 8 = 256 := rfl; omega) h1 h3
  have e : (2 : Int) ^ 8 = 256 := rfl
  omega
theorem xorL_byte : ∀ (x y : List Int), ByteL x → ByteL y → ByteL (xorL x y)
  | [], _, _, _ => by intro z hz; simp [xorL] at hz
  | _ :: _, [], _, _ => by intro z hz; simp [xorL] at hz
  | a :: x, b :: y, hx, hy => by
    intro z hz
    rw [xorL] at hz
    rcases List.mem_cons.1 hz with rfl | hz
    · have ha := hx a List.mem_cons_self
      have hb := hy b List.mem_cons_self
      exact xr8 ha.1 ha.2 hb.1 hb.2
    · exact xorL_byte x y (fun w hw => hx w (List.mem_cons_of_mem _ hw)) (fun w hw => hy w (List.mem_cons_of_mem _ hw)) z hz
theorem xr_comm (a b : Int) : xr a b = xr b a := by unfold xr; rw [Nat.xor_comm]
theorem xr_twice {a b : Int} (h : 0 ≤ a) (h2 : 0 ≤ b) : xr (xr a b) b = a := by
  unfold xr
  rw [Int.toNat_natCast, Nat.xor_assoc, Nat.xor_self, Nat.xor_zero]
  omega
theorem xorL_twice : ∀ (x y : List Int), ByteL x → ByteL y → x.length ≤ y.length → xorL (xorL x y) y = x
  | [], _, _, _, _ => by simp [xorL]
  | a :: x, [], _, _, h => by simp at h
  | a :: x, b :: y, hx, hy, h => by
    rw [xorL, xorL, xr_twice (hx a List.mem_cons_self).1 (hy b List.mem_cons_self).1, xorL_twice x y (fun w hw => hx w (List.mem_cons_of_mem _ hw)) (fun w hw => hy w (List.mem_cons_of_mem _ hw)) (by simpa using h)]
theorem xor_u8 {a b : Int} (h1 : 0 ≤ a) (h2 : a ≤ 255) (h3 : 0 ≤ b) (h4 : b ≤ 255) : Go.bits .xor .u8 a b = xr a b := by
  have h := xr8 h1 h2 h3 h4
  have e8 : ∀ a : Int, (BitVec.ofInt 8 a).toNat = (a % 256).toNat := fun a => by rw [BitVec.toNat_ofInt]; rfl
  simp only [Go.bits, BitVec.toNat_xor]
  rw [show IntKind.u8.bits = 8 from rfl, e8, e8, Int.emod_eq_of_lt h1 (by omega), Int.emod_eq_of_lt h3 (by omega), IntKind.wrap_u8]
  exact Int.emod_eq_of_lt h.1 (Int.lt_of_le_of_lt h.2 (by decide))
/-- The closed body, the tag, and the record. -/
def appOf (key : List Int) (n : Int) (b : List Int) : List Int := xorL b (streamOf key 1 (nonceOf n) b.length)
def sealOf (key : List Int) (n : Int) (b : List Int) : List Int := tagOf (streamOf key 0 (nonceOf n) 16) b
def headOf (key : List Int) (n kind : Int) (b : List Int) : List Int := [kind] ++ be2 b.length ++ appOf key n b
def recOf (key : List Int) (n kind : Int) (b : List Int) : List Int := headOf key n kind b ++ sealOf key n (headOf key n kind b)
def tickOf (key : List Int) (n : Int) : List Int := (be4 n ++ tagOf (key.take 16) (be4 n)) ++ tagOf (key.drop 16) (be4 n ++ tagOf (key.take 16) (be4 n))
theorem appOf_length (key : List Int) (n : Int) (b : List Int) : (appOf key n b).length = b.length := by
  have h := streamOf_length key 1 (nonceOf n) (n := (b.length : Int)) (by omega)
  exact xorL_length _ _ (by omega)
theorem appOf_byte (key : List Int) (n : Int) {b : List Int} (h : ByteL b) : ByteL (appOf key n b) := xorL_byte _ _ h (streamOf_byte _ _ _ _)
theorem sealOf_length (key : List Int) (n : Int) (b : List Int) : (sealOf key n b).length = 8 := tagOf_length _ _
theorem sealOf_byte (key : List Int) (n : Int) (b : List Int) : ByteL (sealOf key n b) := tagOf_byte _ _
theorem headOf_length (key : List Int) (n kind : Int) (b : List Int) : (headOf key n kind b).length = b.length + 3 := by
  simp only [headOf, List.length_append, appOf_length, be2, List.length_cons, List.length_nil]; omega
theorem headOf_byte (key : List Int) (n : Int) {kind : Int} (hk : 0 ≤ kind ∧ kind ≤ 255) {b : List Int} (h : ByteL b) : ByteL (headOf key n kind b) := byteL_append (byteL_append (byteL_one hk.1 hk.2) (be2_byte _)) (appOf_byte key n h)
theorem recOf_length (key : List Int) (n kind : Int) (b : List Int) : (recOf key n kind b).length = b.length + 11 := by rw [recOf, List.length_append, headOf_length, sealOf_length]
theorem recOf_byte (key : List Int) (n : Int) {kind : Int} (hk : 0 ≤ kind ∧ kind ≤ 255) {b : List Int} (h : ByteL b) : ByteL (recOf key n kind b) := byteL_append (headOf_byte key n hk h) (sealOf_byte _ _ _)
theorem tickOf_length (key : List Int) (n : Int) : (tickOf key n).length = 20 := by simp only [tickOf, List.length_append, tagOf_length, be4, List.length_cons, List.length_nil]
theorem tickOf_byte (key : List Int) (n : Int) : ByteL (tickOf key n) := byteL_append (byteL_append (be4_byte n) (tagOf_byte _ _)) (tagOf_byte _ _)
/-! What the streams tell. -/
theorem stream_at {key l2 : List Int} (hb : ByteL key) (hl : key.length = 32) (hb2 : ByteL l2) (hl2 : l2.length = 12) {a n : Int} (ha : 0 ≤ a ∧ a ≤ 1) (hn : 0 ≤ n ∧ n ≤ 4000) : (∃ k, key_Stream.f k key a l2 n = some (streamOf key a l2 n, 0)) ∧ ∃ k, wireglassref21_stream.f k key a l2 n = some (streamOf key a l2 n) := by
  obtain ⟨h1, h2⟩ := stream_both hb hl hb2 hl2 (n := n) (by omega) (by omega) ((n + 63) / 64).toNat [] a (by simp) (by simp) (by omega) (by omega)
  refine ⟨?_, h2.rounds⟩
  obtain ⟨h3, _⟩ := stream_key hb hb2 (a := a) (n := n) (by simp [Lit.wf, IntKind.min, IntKind.max, IntKind.signed, IntKind.bits]; omega) (by simp [Lit.wf, IntKind.min, IntKind.max, IntKind.signed, IntKind.bits]; omega)
  have e : streamA key a l2 n = (streamOf key a l2 n, 0) := by
    unfold streamA
    rw [if_pos ⟨⟨hl, hl2⟩, ⟨by omega, by omega⟩, ⟨by omega, by omega⟩, by omega⟩]
  rw [e] at h3
  exact h3.rounds
/-! Numbers as bytes, the highest first. -/
theorem pow8 (i : Nat) : (2 : Int) ^ (8 * i) = 256 ^ i := by rw [Int.pow_mul]; rfl
theorem put_step (v : Int) (i : Nat) (hi : i < 4) (k : Nat) (xs : List Int) (hl : xs.length ≤ 1000000) : wide_Put.l0 (k + 1) xs v 4 false 4 (i : Int) = wide_Put.l0 k (xs ++ [v / 256 ^ (3 - i) % 256]) v 4 false 4 ((i + 1 : Nat) : Int) := by
  have e1 : wrap64 (wrap64 (4 - 1) - (i : Int)) = ((3 - i : Nat) : Int) := by
    rw [w64 (n := 4 - 1) (by decide) (by decide), w64 (by omega) (by omega)]; omega
  have e : wrap64 (8 * wrap64 (wrap64 (4 - 1) - (i : Int))) = ((8 * (3 - i) : Nat) : Int) := by
    rw [e1, w64 (by omega) (by omega)]; omega
  rw [wide_Put.l0, if_pos (by omega), if_neg (by decide), e, if_pos (by omega), if_pos (by omega), shr_eq (by have : IntKind.u64.bits = 64 := rfl; omega), pow8, w64 (by omega) (by omega)]
  rfl
theorem put_high4 (v : Int) (xs : List Int) (hl : xs.length ≤ 100000) : wide_Put.f 5 xs v 4 false = some (xs ++ be4 v) := by
  unfold wide_Put.f
  have h0 := put_step v 0 (by decide) 4 xs (by omega)
  have h1 := put_step v 1 (by decide) 3 (xs ++ [v / 256 ^ (3 - 0) % 256]) (by rw [List.length_append]; simp; omega)
  have h2 := put_step v 2 (by decide) 2 (xs ++ [v / 256 ^ (3 - 0) % 256] ++ [v / 256 ^ (3 - 1) % 256]) (by simp only [List.length_append, List.length_cons, List.length_nil]; omega)
  have h3 := put_step v 3 (by decide) 1 (xs ++ [v / 256 ^ (3 - 0) % 256] ++ [v / 256 ^ (3 - 1) % 256] ++ [v / 256 ^ (3 - 2) % 256]) (by simp only [List.length_append, List.length_cons, List.length_nil]; omega)
  have h4 : ∀ ys, wide_Put.l0 1 ys v 4 false 4 ((3 + 1 : Nat) : Int) = some ys := fun ys => by rw [wide_Put.l0, if_neg (by decide)]
  refine h0.trans (h1.trans (h2.trans (h3.trans ((h4 _).trans ?_))))
  simp only [List.append_assoc, List.cons_append, List.nil_append]
  congr 2
  have q1 : v / 256 ^ (3 - 0) = v / 16777216 := rfl
  have q2 : v / 256 ^ (3 - 1) = v / 65536 := rfl
  have q3 : v / 256 ^ (3 - 2) = v / 256 := rfl
  have q4 : v / 256 ^ (3 - 3) = v := by show v / 1 = v; omega
  rw [q1, q2, q3, q4]; rfl
theorem high_step (k : Nat) (n : Int) (xs : List Int) (i : Nat) (hi : i < xs.length) (hl : xs.length ≤ 8) : wireglassref21_high.l0 (k + 1) n xs (i : Int) = wireglassref21_high.l0 k (n / 256) (xs.set i (n % 256)) ((i : Int) - 1) := by
  rw [wireglassref21_high.l0, if_pos (by omega), if_pos (by omega), if_pos (by omega), Int.toNat_natCast, w64 (by omega) (by omega)]
theorem high_end (k : Nat) (n : Int) (xs : List Int) : wireglassref21_high.l0 (k + 1) n xs (((0 : Nat) : Int) - 1) = some xs := by
  rw [wireglassref21_high.l0, if_neg (by decide)]
theorem high4 (n : Int) : wireglassref21_high.f 5 n 4 = some (be4 n) := by
  have h : wireglassref21_high.f 5 n 4 = wireglassref21_high.l0 5 n [0, 0, 0, 0] ((3 : Nat) : Int) := by
    unfold wireglassref21_high.f
    rw [if_pos (by decide), if_pos (by decide), w64 (by decide) (by decide)]
    rfl
  rw [h]
  refine (high_step 4 n _ 3 (by simp) (by simp)).trans ((high_step 3 (n / 256) _ 2 (by simp) (by simp)).trans ((high_step 2 (n / 256 / 256) _ 1 (by simp) (by simp)).trans ((high_step 1 (n / 256 / 256 / 256) _ 0 (by simp) (by simp)).trans ((high_end 0 _ _).trans ?_))))
  have q1 : n / 256 / 256 / 256 = n / 16777216 := by omega
  have q2 : n / 256 / 256 = n / 65536 := by omega
  rw [q1, q2]; rfl
theorem high2 (n : Int) : wireglassref21_high.f 3 n 2 = some (be2 n) := by
  have h : wireglassref21_high.f 3 n 2 = wireglassref21_high.l0 3 n [0, 0] ((1 : Nat) : Int) := by
    unfold wireglassref21_high.f
    rw [if_pos (by decide), if_pos (by decide), w64 (by decide) (by decide)]
    rfl
  rw [h]
  exact (high_step 2 n _ 1 (by simp) (by simp)).trans ((high_step 1 (n / 256) _ 0 (by simp) (by simp)).trans (high_end 0 _ _))
def beV (l : List Int) : Int := l.foldl (fun n x => 256 * n + x) 0
theorem beV_snoc (l : List Int) (x : Int) : beV (l ++ [x]) = 256 * beV l + x := by simp [beV, List.foldl_append]
theorem beV_bd (l : List Int) (hb : ByteL l) (i : Nat) (h : i ≤ 4) (hi : i ≤ l.length) : 0 ≤ beV (l.take i) ∧ beV (l.take i) < 4294967296 ∧ (i ≤ 3 → beV (l.take i) < 16777216) ∧ (i ≤ 2 → beV (l.take i) < 65536) ∧ (i ≤ 1 → beV (l.take i) < 256) ∧ (i = 0 → beV (l.take i) = 0) := by
  induction i with
  | zero => simp [beV]
  | succ i ih =>
    have ih := ih (by omega) (by omega)
    have hlt : i < l.length := by omega
    have hx := hb _ (List.getElem_mem hlt)
    rw [List.take_succ_eq_append_getElem hlt, beV_snoc]
    omega
theorem get_hi_from (l : List Int) (hb : ByteL l) (hl : l.length ≤ 4) : ∀ (d i : Nat), i + d = l.length → wide_Get.l0 (d + 1) l false (beV (l.take i)) (l.length : Int) (i : Int) = some (beV l)
  | 0, i, h => by
    rw [wide_Get.l0, if_neg (by omega), List.take_of_length_le (by omega)]
  | d + 1, i, h => by
    have hlt : i < l.length := by omega
    have hx := hb _ (List.getElem_mem hlt)
    have hbd := beV_bd l hb i (by omega) (by omega)
    have hq := hbd.2.2.1 (by omega)
    have ih := get_hi_from l hb hl d (i + 1) (by omega)
    rw [List.take_succ_eq_append_getElem hlt, beV_snoc] at ih
    rw [wide_Get.l0, if_pos (by omega), if_neg (by decide), if_pos (by omega), if_pos (by omega), rd_at hlt, get_or hbd.1 (by omega) hx.1 hx.2, w64 (by omega) (by omega), Int.add_comm]
    exact ih
theorem get_hi (l : List Int) (hb : ByteL l) (hl : l.length ≤ 4) : wide_Get.f (l.length + 1) l false = some (beV l) := get_hi_from l hb hl l.length 0 (by omega)
/-- Whether bytes are equal, as both sides ask. -/
def eqB (a b : List Int) : Bool := (strOfNums a).toList == (strOfNums b).toList
theorem tick_ref (key : List Int) (hl : key.length = 32) (hb : ByteL key) (n : Int) : wireglassref21_ticket.f 5 key n = some (tickOf key n) := by
  unfold wireglassref21_ticket.f
  rw [high4]
  rw [Option.bind_some, if_pos (by omega), rtag_is (by rw [List.length_take]; omega) (byteL_take hb 16) (be4_byte n), Option.bind_some, if_pos (by rw [tagOf_length]; simp [be4]), Option.bind_some, rtag_is (by rw [List.length_drop]; omega) (byteL_drop hb 16) (byteL_append (be4_byte n) (tagOf_byte _ _)), Option.bind_some, if_pos (by simp only [List.length_append, tagOf_length]; simp [be4])]
  rfl
/-! What is answered, and the next number. -/
def closeA (key : List Int) (n kind : Int) (b : List Int) : (List Int × Int) × Int :=
  if kind < 0 ∨ 255 < kind then (([], 1), n) else if 400 < b.length then (([], 3), n) else if 4294967296 ≤ n then (([], 12), n) else ((recOf key n kind b, 0), n + 1)
def bodyLen (b : List Int) : Int := 256 * b.getD 1 0 + b.getD 2 0
def readA (key : List Int) (n : Int) (b : List Int) : (Int × List Int × Int × Int) × Int :=
  if 4294967296 ≤ n then ((0, [], 0, 12), n) else if b.length < 3 then ((0, [], 0, 11), n) else
  if 400 < bodyLen b then ((0, [], 0, 3), n) else if (b.length : Int) < bodyLen b + 11 then ((0, [], 0, 11), n) else
  if eqB (sealOf key n (b.take (bodyLen b + 3).toNat)) ((b.take (bodyLen b + 11).toNat).drop (bodyLen b + 3).toNat) = true then ((b.getD 0 0, appOf key n ((b.take (bodyLen b + 3).toNat).drop 3), bodyLen b + 11, 0), n + 1) else ((0, [], 0, 8), n)
def tickA (key : List Int) (n : Int) : List Int × Int := if 4294967296 ≤ n then ([], 12) else (tickOf key n, 0)
def resumeA (key t : List Int) : Option Int × Int := if key.length ≠ 32 then (none, 1) else if t.length ≠ 20 then (none, 11) else if eqB (tickOf key (beV (t.take 4))) t = true then (some (beV (t.take 4)), 0) else (none, 8)
end Go.Proofs.Ytpkmfaloncclaaa.T
