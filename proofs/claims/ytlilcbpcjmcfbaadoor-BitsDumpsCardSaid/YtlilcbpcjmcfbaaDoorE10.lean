/- A dump is read back by the program's reader, in plain Lean. Conditions: bytes, no more than 1600. -/
import Derived.Test.YtlilcbpcjmcfbaaDoorE9
namespace Go.Proofs.YtlilcbpcjmcfbaaDoor.Pure
open Go.RowKit Go.Shelf Go.Proofs.YtlilcbpcjmcfbaaDoor.D Go.Proofs.YtlilcbpcjmcfbaaDoor.Hand Go.Proofs.YtlilcbpcjmcfbaaDoorW.PrintWords Go.Proofs.YtlilcbpcjmcfbaaDoorW.PrintLast Go.Proofs.YtlilcbpcjmcfbaaDoorW.PrintMore
set_option linter.unusedVariables false
theorem sn_bytes (l : List Int) : (strOfNums l).data.toList = l.map fun n : Int => UInt8.ofNat n.toNat := strOfNums_data l
theorem extract_sn (l : List Int) (a b : Nat) : (strOfNums l).extract a b = strOfNums ((l.drop a).take (b - a)) := by
  rw [Lib.extract_eq, sn_bytes]
  unfold strOfNums
  rw [List.map_take, List.map_drop]
theorem bt_sn {l : List Int} (h : isB l) {i : Nat} (hi : i < l.length) : bt (strOfNums l) (i : Int) = rd l (i : Int) := by
  have hb := rd_isB h hi
  unfold bt
  rw [Int.toNat_natCast, dif_pos (by rw [strOfNums_size]; exact hi)]
  have e : (strOfNums l)[i]'(by rw [strOfNums_size]; exact hi) = UInt8.ofNat (rd l (i : Int)).toNat := by
    show (strOfNums l).data[i]'_ = _
    have h2 : (strOfNums l).data = (l.map fun n : Int => UInt8.ofNat n.toNat).toArray := rfl
    simp only [h2, List.getElem_toArray, List.getElem_map]
    rw [rd_at hi]
  rw [e, UInt8.toNat_ofNat', Nat.mod_eq_of_lt (by omega)]
  omega
theorem rmSp_sn {l : List Int} (h : isB l) : rmSp (strOfNums l) = strOfNums (l.filter fun x => x != 32) := by
  rw [rmSp_eq, sn_bytes]
  unfold strOfNums
  congr 2
  rw [List.filter_map]
  congr 1
  refine List.filter_congr fun x hx => ?_
  have hb := h x hx
  simp only [Function.comp]
  by_cases c : x = 32
  · subst c; decide
  · have : UInt8.ofNat x.toNat ≠ 32 := by
      intro e
      have := congrArg UInt8.toNat e
      rw [UInt8.toNat_ofNat', Nat.mod_eq_of_lt (by omega)] at this
      have h32 : (32 : UInt8).toNat = 32 := rfl
      rw [h32] at this
      omega
    rw [bne_iff_ne.mpr this, bne_iff_ne.mpr c]
theorem dg_ne {d : Int} (h0 : 0 ≤ d) (h1 : d ≤ 15) : bt DG d ≠ 32 ∧ bt DG d ≠ 10 ∧ digV (bt DG d) = d := by
  obtain ⟨n, rfl⟩ := Int.eq_ofNat_of_zero_le h0
  have hn : n < 16 := by omega
  have : ∀ m : Fin 16, bt DG ((m.val : Nat) : Int) ≠ 32 ∧ bt DG ((m.val : Nat) : Int) ≠ 10 ∧ digV (bt DG ((m.val : Nat) : Int)) = ((m.val : Nat) : Int) := by decide +kernel
  exact this ⟨n, hn⟩
theorem hexN_dig {l : List Int} (h : isB l) : ∀ x ∈ hexN l, x ≠ 32 ∧ x ≠ 10 := by
  intro x hx
  unfold hexN at hx
  obtain ⟨c, hc, hx⟩ := List.mem_flatMap.1 hx
  have hb := h c hc
  simp only [List.mem_cons, List.not_mem_nil, or_false] at hx
  rcases hx with rfl | rfl
  · exact ⟨(dg_ne (by omega) (by omega)).1, (dg_ne (by omega) (by omega)).2.1⟩
  · exact ⟨(dg_ne (by omega) (by omega)).1, (dg_ne (by omega) (by omega)).2.1⟩
theorem hexN_filt {l : List Int} (h : isB l) : (hexN l).filter (fun x => x != 32) = hexN l :=
  List.filter_eq_self.2 fun x hx => by simp [(hexN_dig h x hx).1]
theorem hexN_app (a b : List Int) : hexN (a ++ b) = hexN a ++ hexN b := by simp [hexN]
theorem colN_filt {b : List Int} (h : isB b) (i : Nat) : (colN b i).filter (fun x => x != 32) = if i < b.length then hexN [rd b (i : Int)] else [] := by
  unfold colN
  rw [List.filter_append, List.filter_append]
  have e1 : (if i = 8 then [32] else ([] : List Int)).filter (fun x => x != 32) = [] := by split <;> rfl
  have e2 : (if 0 < i then [32] else ([] : List Int)).filter (fun x => x != 32) = [] := by split <;> rfl
  rw [e1, e2, List.nil_append, List.nil_append]
  by_cases c : i < b.length
  · rw [if_pos c, if_pos c]
    have hb := rd_isB h c
    exact hexN_filt (isB_one hb.1 hb.2)
  · rw [if_neg c, if_neg c]
    rfl
theorem colsN_filt {b : List Int} (h : isB b) : ∀ i, (colsN b i).filter (fun x => x != 32) = hexN (b.take i)
  | 0 => by simp [colsN, hexN]
  | i + 1 => by
    rw [colsN, List.filter_append, colsN_filt h i, colN_filt h]
    by_cases c : i < b.length
    · rw [if_pos c, take_rd c, hexN_app]
    · rw [if_neg c, List.append_nil, List.take_of_length_le (by omega), List.take_of_length_le (by omega)]
theorem hexN_at (b : List Int) : ∀ (m : Nat), m < b.length → rd (hexN b) ((2 * m : Nat) : Int) = bt DG (rd b (m : Int) / 16) ∧ rd (hexN b) ((2 * m + 1 : Nat) : Int) = bt DG (rd b (m : Int) % 16) := by
  induction b with
  | nil => intro m h; simp at h
  | cons c r ih =>
    intro m h
    cases m with
    | zero => exact ⟨rfl, rfl⟩
    | succ m =>
      have := ih m (by simpa using h)
      have e1 : rd (hexN (c :: r)) ((2 * (m + 1) : Nat) : Int) = rd (hexN r) ((2 * m : Nat) : Int) := by
        unfold rd
        rw [Int.toNat_natCast, Int.toNat_natCast, hexN_cons, show 2 * (m + 1) = 2 * m + 1 + 1 by omega, List.getD_cons_succ, List.getD_cons_succ]
      have e2 : rd (hexN (c :: r)) ((2 * (m + 1) + 1 : Nat) : Int) = rd (hexN r) ((2 * m + 1 : Nat) : Int) := by
        unfold rd
        rw [Int.toNat_natCast, Int.toNat_natCast, hexN_cons, show 2 * (m + 1) + 1 = 2 * m + 1 + 1 + 1 by omega, List.getD_cons_succ, List.getD_cons_succ]
      have e3 : rd (c :: r) ((m + 1 : Nat) : Int) = rd r (m : Int) := by
        unfold rd
        rw [Int.toNat_natCast, Int.toNat_natCast, List.getD_cons_succ]
      rw [e1, e2, e3]
      exact this
theorem unhexL_hex {b : List Int} (h : isB b) : ∀ (d m : Nat), m + d = b.length → unhexL (strOfNums (hexN b)) d (2 * m) (b.take m) = (b, 0)
  | 0, m, e => by
    rw [unhexL, List.take_of_length_le (by omega)]
  | d + 1, m, e => by
    have hm : m < b.length := by omega
    have hb := rd_isB h hm
    have hl := hexN_len b
    have h1 := bt_sn (hexN_isB b) (i := 2 * m) (by omega)
    have h2 := bt_sn (hexN_isB b) (i := 2 * m + 1) (by omega)
    rw [(hexN_at b m hm).1] at h1
    rw [(hexN_at b m hm).2] at h2
    have d1 := (dg_ne (d := rd b (m : Int) / 16) (by omega) (by omega)).2.2
    have d2 := (dg_ne (d := rd b (m : Int) % 16) (by omega) (by omega)).2.2
    rw [unhexL, h1, h2, d1, d2, if_neg (by omega), if_neg (by omega)]
    rw [show 16 * (rd b (m : Int) / 16) + rd b (m : Int) % 16 = rd b (m : Int) by omega, ← take_rd hm]
    exact unhexL_hex h d (m + 1) (by omega)
theorem unhexS_hex {b : List Int} (h : isB b) : unhexS (strOfNums (hexN b)) = (b, 0) := by
  unfold unhexS
  have hl := hexN_len b
  rw [strOfNums_size, if_pos (by omega), show (hexN b).length / 2 = b.length by omega]
  exact unhexL_hex h b.length 0 (by omega)
/-- The line without its end. -/
def bodyN (a : Int) (b : List Int) : List Int := hexN [a / 256 % 256, a % 256] ++ ([32, 32] ++ (colsN b 16 ++ ([32, 32] ++ b.map prtN)))
theorem lineN_body (a : Int) (b : List Int) : lineN a b = bodyN a b ++ [10] := by simp [lineN, bodyN]
theorem bodyN_cut (a : Int) (b : List Int) (r : List Int) : ((bodyN a b ++ r).drop 6).take 48 = colsN b 16 := by
  have e : bodyN a b ++ r = (hexN [a / 256 % 256, a % 256] ++ [32, 32]) ++ (colsN b 16 ++ ([32, 32] ++ b.map prtN ++ r)) := by simp [bodyN]
  have h6 : (hexN [a / 256 % 256, a % 256] ++ [32, 32]).length = 6 := by rw [List.length_append, hexN_len]; rfl
  rw [e, List.drop_append_of_le_length (by omega), List.drop_of_length_le (by omega), List.nil_append, List.take_append_of_le_length (by rw [colsN_len]; exact Nat.le_refl _), List.take_of_length_le (by rw [colsN_len]; exact Nat.le_refl _)]
theorem colN_ne {b : List Int} (h : isB b) (i : Nat) : ∀ x ∈ colN b i, x ≠ 10 := by
  intro x hx
  unfold colN at hx
  rcases List.mem_append.1 hx with hx | hx
  · split at hx
    · simp at hx; omega
    · simp at hx
  · rcases List.mem_append.1 hx with hx | hx
    · split at hx
      · simp at hx; omega
      · simp at hx
    · split at hx
      · next c =>
        have hb := rd_isB h c
        exact (hexN_dig (isB_one hb.1 hb.2) x hx).2
      · simp at hx; omega
theorem colsN_ne {b : List Int} (h : isB b) : ∀ i, ∀ x ∈ colsN b i, x ≠ 10
  | 0, x, hx => by simp [colsN] at hx
  | i + 1, x, hx => by
    rw [colsN] at hx
    rcases List.mem_append.1 hx with hx | hx
    · exact colsN_ne h i x hx
    · exact colN_ne h i x hx
theorem bodyN_ne (a : Int) {b : List Int} (h : isB b) : ∀ x ∈ bodyN a b, x ≠ 10 := by
  intro x hx
  unfold bodyN at hx
  rcases List.mem_append.1 hx with hx | hx
  · exact (hexN_dig (isB_cons (by omega) (by omega) (isB_one (by omega) (by omega))) x hx).2
  rcases List.mem_append.1 hx with hx | hx
  · simp at hx; omega
  rcases List.mem_append.1 hx with hx | hx
  · exact colsN_ne h 16 x hx
  rcases List.mem_append.1 hx with hx | hx
  · simp at hx; omega
  · obtain ⟨y, _, rfl⟩ := List.mem_map.1 hx
    unfold prtN
    split <;> omega
theorem bodyN_isB (a : Int) (b : List Int) : isB (bodyN a b) := by
  have := lineN_isB a b
  rw [lineN_body] at this
  exact fun x hx => this x (List.mem_append_left _ hx)
theorem bodyN_len (a : Int) (b : List Int) : (bodyN a b).length = 56 + b.length := by
  have := lineN_len a b
  rw [lineN_body, List.length_append, List.length_singleton] at this
  omega
theorem ixFirst (c : UInt8) : ∀ (p r : List UInt8), (∀ x ∈ p, x ≠ c) → Lib.indexByte (p ++ c :: r) c = p.length
  | [], r, h => by simp [Lib.indexByte]
  | b :: p, r, h => by
    have ih := ixFirst c p r (fun x hx => h x (List.mem_cons_of_mem _ hx))
    have hb : (b == c) = false := beq_eq_false_iff_ne.mpr (h b (List.mem_cons_self ..))
    rw [List.cons_append, Lib.indexByte, hb, ih, if_neg (by simp), if_neg (by simp), List.length_cons]
    rfl
theorem b8_ne {x : Int} (h0 : 0 ≤ x) (h1 : x ≤ 255) (hx : x ≠ 10) : UInt8.ofNat x.toNat ≠ 10 := by
  intro e
  have := congrArg UInt8.toNat e
  rw [UInt8.toNat_ofNat', Nat.mod_eq_of_lt (by omega)] at this
  have h32 : (10 : UInt8).toNat = 10 := rfl
  rw [h32] at this
  omega
theorem lineAt_sn (a : Int) {b : List Int} (h : isB b) (r : List Int) : lineAt (strOfNums (lineN a b ++ r)) = (bodyN a b).length := by
  unfold lineAt
  rw [sn_bytes, lineN_body, List.append_assoc, List.map_append, List.singleton_append, List.map_cons]
  have := ixFirst 10 ((bodyN a b).map fun n : Int => UInt8.ofNat n.toNat) (r.map fun n : Int => UInt8.ofNat n.toNat) (fun x hx => by
    obtain ⟨y, hy, rfl⟩ := List.mem_map.1 hx
    have hb := bodyN_isB a b y hy
    exact b8_ne hb.1 hb.2 (bodyN_ne a h y hy))
  rw [List.length_map] at this
  exact this
theorem lineHd_sn (a : Int) {b : List Int} (h : isB b) (r : List Int) : lineHd (strOfNums (lineN a b ++ r)) = strOfNums (lineN a b) ∧ lineTl (strOfNums (lineN a b ++ r)) = strOfNums r := by
  have hl : (lineN a b).length = (bodyN a b).length + 1 := by rw [lineN_body, List.length_append, List.length_singleton]
  unfold lineHd lineTl
  rw [lineAt_sn a h r, if_pos (by omega), if_pos (by omega), Int.toNat_natCast, extract_sn, extract_sn, ← hl]
  refine ⟨?_, ?_⟩
  · rw [List.drop_zero, Nat.sub_zero, List.take_left]
  · rw [List.drop_left, List.take_of_length_le (by rw [strOfNums_size, List.length_append]; omega)]
/-- The rows from one on. -/
def tailN (x : List Int) : Nat → Nat → List Int
  | 0, _ => []
  | d + 1, j => lineN (16 * j) ((x.drop (16 * j)).take 16) ++ tailN x d (j + 1)
theorem rows_tail (x : List Int) : ∀ (d j : Nat), rowsN x (j + d) = rowsN x j ++ tailN x d j
  | 0, j => by simp [tailN]
  | d + 1, j => by
    rw [show j + (d + 1) = (j + 1) + d by omega, rows_tail x d (j + 1), rowsN, tailN, List.append_assoc]
def linesN (x : List Int) : Nat → Nat → List ByteArray
  | 0, _ => []
  | d + 1, j => strOfNums (lineN (16 * j) ((x.drop (16 * j)).take 16)) :: linesN x d (j + 1)
theorem linesN_is {x : List Int} (h : isB x) : ∀ (d j : Nat), isLin (strOfNums (tailN x d j)) (linesN x d j)
  | 0, j => by
    show (strOfNums (tailN x 0 j)).size = 0
    rw [strOfNums_size]; rfl
  | d + 1, j => by
    have hc := lineHd_sn (16 * (j : Int)) (isB_cut h (16 * j) 16) (tailN x d (j + 1))
    refine ⟨?_, hc.1.symm, ?_⟩
    · rw [strOfNums_size, tailN, List.length_append, lineN_len]; omega
    · rw [tailN, hc.2]
      exact linesN_is h d (j + 1)
theorem undStep_line {x : List Int} (h : isB x) (hl : x.length ≤ 1600) (j : Nat) : undStep (x.take (16 * j)) (strOfNums (lineN (16 * j) ((x.drop (16 * j)).take 16))) = some (x.take (16 * (j + 1))) := by
  have hb := isB_cut h (16 * j) 16
  have hlen := lineN_len (16 * (j : Int)) ((x.drop (16 * j)).take 16)
  have hcut : ((lineN (16 * (j : Int)) ((x.drop (16 * j)).take 16)).drop 6).take (54 - 6) = colsN ((x.drop (16 * j)).take 16) 16 := by rw [lineN_body]; exact bodyN_cut _ _ _
  have hj : x.take (16 * j) ++ (x.drop (16 * j)).take 16 = x.take (16 * (j + 1)) := by
    rw [show 16 * (j + 1) = 16 * j + 16 by omega, List.take_add]
  unfold undStep
  rw [strOfNums_size, hlen, if_neg (by omega), extract_sn, hcut, rmSp_sn (colsN_isB _ _), colsN_filt hb, List.take_of_length_le (by rw [List.length_take]; omega), unhexS_hex hb, if_pos ⟨rfl, by rw [← List.length_append, hj, List.length_take]; omega⟩]
  show some (x.take (16 * j) ++ (x.drop (16 * j)).take 16) = _
  rw [hj]
theorem undF_lines {x : List Int} (h : isB x) (hl : x.length ≤ 1600) : ∀ (d j : Nat), j + d = (x.length + 15) / 16 → undF (x.take (16 * j)) (linesN x d j) = some x
  | 0, j, e => by
    show some (x.take (16 * j)) = some x
    rw [List.take_of_length_le (by omega)]
  | d + 1, j, e => by
    show (undStep (x.take (16 * j)) _).bind _ = _
    rw [undStep_line h hl j]
    exact undF_lines h hl d (j + 1) (by omega)
/-- The text is a dump of these bytes. -/
def GoodD (s : ByteArray) (x : List Int) : Prop := isB x ∧ x.length ≤ 1600 ∧ strOfNums (dumpN x) = s
/-- What a reader of dumps answers. -/
def OkD (s : ByteArray) (r1 : List Int) (r2 : Int) : Prop := (r1 = [] ∧ r2 = 2) ∨ (r2 = 0 ∧ GoodD s r1)
theorem undB_ok {s : ByteArray} {r1 : List Int} {r2 : Int} (h : UndB s r1 r2) : OkD s r1 r2 := by
  obtain ⟨ls, hls, ⟨_, h1, h2⟩ | ⟨o, ho, hb, hl, ⟨e, h1, h2⟩ | ⟨e, h1, h2⟩⟩⟩ := h
  · exact .inl ⟨h1, h2⟩
  · subst h1; exact .inr ⟨h2, hb, hl, e⟩
  · exact .inl ⟨h1, h2⟩
theorem undB_good {s : ByteArray} {x r1 : List Int} {r2 : Int} (hx : GoodD s x) (h : UndB s r1 r2) : r1 = x ∧ r2 = 0 := by
  obtain ⟨hb, hl, hs⟩ := hx
  have e0 : dumpN x = tailN x ((x.length + 15) / 16) 0 := by
    unfold dumpN
    have := rows_tail x ((x.length + 15) / 16) 0
    rw [Nat.zero_add] at this
    rw [this]
    rfl
  have h1 := linesN_is hb ((x.length + 15) / 16) 0
  have h2 := undF_lines hb hl ((x.length + 15) / 16) 0 (by omega)
  rw [← e0, hs] at h1
  obtain ⟨ls, hls, hc⟩ := h
  have e := isLin_one _ _ _ hls h1
  subst e
  rw [show x.take (16 * 0) = [] from rfl] at h2
  rcases hc with ⟨h3, _, _⟩ | ⟨o, ho, hob, hol, hc⟩
  · rw [h2] at h3; cases h3
  · rw [h2] at ho
    injection ho with ho
    subst ho
    rcases hc with ⟨_, h4, h5⟩ | ⟨h3, _, _⟩
    · exact ⟨h4, h5⟩
    · exact absurd hs h3
end Go.Proofs.YtlilcbpcjmcfbaaDoor.Pure
