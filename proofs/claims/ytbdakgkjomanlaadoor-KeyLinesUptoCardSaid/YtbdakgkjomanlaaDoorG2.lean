/- The text of secrets, in plain Lean; that the reference's is it, and that it is read as they were. Conditions: as each lemma says. -/
import Derived.Test.YtbdakgkjomanlaaDoorF9
import Derived.Test.YtbdakgkjomanlaaDoorDx9
namespace Go.Proofs.YtbdakgkjomanlaaDoor.Pure
open Go.RowKit Go.Shelf Go.Proofs.YtbdakgkjomanlaaDoor.D Go.Proofs.YtbdakgkjomanlaaDoor.Hand Go.Proofs.YtbdakgkjomanlaaDoorW.PrintWords Go.Proofs.YtbdakgkjomanlaaDoorW.PrintLast Go.Proofs.YtbdakgkjomanlaaDoorW.PrintMore
set_option linter.unusedVariables false
theorem take_rd {l : List Int} {i : Nat} (h : i < l.length) : l.take (i + 1) = l.take i ++ [rd l i] := by
  rw [rd_at h, List.take_succ_eq_append_getElem h]
theorem sn_bytes (l : List Int) : (strOfNums l).data.toList = l.map fun n : Int => UInt8.ofNat n.toNat := strOfNums_data l
theorem bt_sn {l : List Int} (h : isB l) {i : Nat} (hi : i < l.length) : bt (strOfNums l) (i : Int) = rd l (i : Int) := by
  have hb := rd_isB h hi
  unfold bt
  rw [Int.toNat_natCast, dif_pos (by rw [strOfNums_size]; exact hi)]
  have e : (strOfNums l)[i]'(by rw [strOfNums_size]; exact hi) = UInt8.ofNat (rd l (i : Int)).toNat := by
    show (strOfNums l).data[i]'_ = _
    have h2 : (strOfNums l).data = (l.map fun n : Int => UInt8.ofNat n.toNat).toArray := rfl
    simp only [h2, List.getElem_toArray, List.getElem_map]
    rw [rd_at hi]
  rw [e, UInt8.toNat_ofNat', Nat.mod_eq_of_lt (by omega)]
  omega
theorem dg_ne {d : Int} (h0 : 0 ≤ d) (h1 : d ≤ 15) : bt DG d ≠ 32 ∧ bt DG d ≠ 10 ∧ digV (bt DG d) = d := by
  obtain ⟨n, rfl⟩ := Int.eq_ofNat_of_zero_le h0
  have hn : n < 16 := by omega
  have : ∀ m : Fin 16, bt DG ((m.val : Nat) : Int) ≠ 32 ∧ bt DG ((m.val : Nat) : Int) ≠ 10 ∧ digV (bt DG ((m.val : Nat) : Int)) = ((m.val : Nat) : Int) := by decide +kernel
  exact this ⟨n, hn⟩
theorem hexN_dig {l : List Int} (h : isB l) : ∀ x ∈ hexN l, x ≠ 32 ∧ x ≠ 10 := by
  intro x hx
  unfold hexN at hx
  obtain ⟨c, hc, hx⟩ := List.mem_flatMap.1 hx
  have hb := h c hc
  simp only [List.mem_cons, List.not_mem_nil, or_false] at hx
  rcases hx with rfl | rfl
  · exact ⟨(dg_ne (by omega) (by omega)).1, (dg_ne (by omega) (by omega)).2.1⟩
  · exact ⟨(dg_ne (by omega) (by omega)).1, (dg_ne (by omega) (by omega)).2.1⟩
theorem hexN_at (b : List Int) : ∀ (m : Nat), m < b.length → rd (hexN b) ((2 * m : Nat) : Int) = bt DG (rd b (m : Int) / 16) ∧ rd (hexN b) ((2 * m + 1 : Nat) : Int) = bt DG (rd b (m : Int) % 16) := by
  induction b with
  | nil => intro m h; simp at h
  | cons c r ih =>
    intro m h
    cases m with
    | zero => exact ⟨rfl, rfl⟩
    | succ m =>
      have := ih m (by simpa using h)
      have e1 : rd (hexN (c :: r)) ((2 * (m + 1) : Nat) : Int) = rd (hexN r) ((2 * m : Nat) : Int) := by
        unfold rd
        rw [Int.toNat_natCast, Int.toNat_natCast, hexN_cons, show 2 * (m + 1) = 2 * m + 1 + 1 by omega, List.getD_cons_succ, List.getD_cons_succ]
      have e2 : rd (hexN (c :: r)) ((2 * (m + 1) + 1 : Nat) : Int) = rd (hexN r) ((2 * m + 1 : Nat) : Int) := by
        unfold rd
        rw [Int.toNat_natCast, Int.toNat_natCast, hexN_cons, show 2 * (m + 1) + 1 = 2 * m + 1 + 1 + 1 by omega, List.getD_cons_succ, List.getD_cons_succ]
      have e3 : rd (c :: r) ((m + 1 : Nat) : Int) = rd r (m : Int) := by
        unfold rd
        rw [Int.toNat_natCast, Int.toNat_natCast, List.getD_cons_succ]
      rw [e1, e2, e3]
      exact this
theorem unhexL_hex {b : List Int} (h : isB b) : ∀ (d m : Nat), m + d = b.length → unhexL (strOfNums (hexN b)) d (2 * m) (b.take m) = (b, 0)
  | 0, m, e => by
    rw [unhexL, List.take_of_length_le (by omega)]
  | d + 1, m, e => by
    have hm : m < b.length := by omega
    have hb := rd_isB h hm
    have hl := hexN_len b
    have h1 := bt_sn (hexN_isB b) (i := 2 * m) (by omega)
    have h2 := bt_sn (hexN_isB b) (i := 2 * m + 1) (by omega)
    rw [(hexN_at b m hm).1] at h1
    rw [(hexN_at b m hm).2] at h2
    have d1 := (dg_ne (d := rd b (m : Int) / 16) (by omega) (by omega)).2.2
    have d2 := (dg_ne (d := rd b (m : Int) % 16) (by omega) (by omega)).2.2
    rw [unhexL, h1, h2, d1, d2, if_neg (by omega), if_neg (by omega)]
    rw [show 16 * (rd b (m : Int) / 16) + rd b (m : Int) % 16 = rd b (m : Int) by omega, ← take_rd hm]
    exact unhexL_hex h d (m + 1) (by omega)
theorem unhexS_hex {b : List Int} (h : isB b) : unhexS (strOfNums (hexN b)) = (b, 0) := by
  unfold unhexS
  have hl := hexN_len b
  rw [strOfNums_size, if_pos (by omega), show (hexN b).length / 2 = b.length by omega]
  exact unhexL_hex h b.length 0 (by omega)
/-! ### the text -/
def rowA (x : S33) : ByteArray := (x.f0 ++ (⟨#[32]⟩ : ByteArray)) ++ strOfNums (hexN x.f1)
def lineA (x : S33) : ByteArray := rowA x ++ (⟨#[10]⟩ : ByteArray)
def textA : List S33 → ByteArray
  | [] => ⟨#[]⟩
  | x :: r => lineA x ++ textA r
theorem ba_nil (a : ByteArray) : a ++ (⟨#[]⟩ : ByteArray) = a := by
  refine ba_ext ?_
  rw [ByteArray.data_append, Array.toList_append]
  simp
theorem nil_ba (a : ByteArray) : (⟨#[]⟩ : ByteArray) ++ a = a := by
  refine ba_ext ?_
  rw [ByteArray.data_append, Array.toList_append]
  simp
theorem textA_snoc (x : S33) : ∀ l : List S33, textA (l ++ [x]) = textA l ++ lineA x
  | [] => by
    show lineA x ++ (⟨#[]⟩ : ByteArray) = (⟨#[]⟩ : ByteArray) ++ lineA x
    rw [ba_nil, nil_ba]
  | y :: l => by
    show lineA y ++ textA (l ++ [x]) = (lineA y ++ textA l) ++ lineA x
    rw [textA_snoc x l, ByteArray.append_assoc]
theorem take_rdS {L : List S33} {i : Nat} (h : i < L.length) : L.take (i + 1) = L.take i ++ [rd_T33 L (i : Int)] := by
  unfold rd_T33
  rw [Int.toNat_natCast, List.getD_eq_getElem?_getD, List.getElem?_eq_getElem h, Option.getD_some, List.take_succ_eq_append_getElem h]
theorem textA_next {L : List S33} {i : Nat} (h : i < L.length) : textA (L.take (i + 1)) = textA (L.take i) ++ lineA (rd_T33 L (i : Int)) := by
  rw [take_rdS h, textA_snoc]
/-- A secret that can be written. -/
def okS (x : S33) : Bool := labOk x.f0 && (!(bt x.f0 0 == 35) && txtOk x.f1)
/-- Secrets of bytes, no larger than the law's bound. -/
def Sized (L : List S33) : Prop := L.length ≤ 40000 ∧ ∀ i : Nat, i < L.length → (rd_T33 L (i : Int)).f0.size ≤ 40000 ∧ (rd_T33 L (i : Int)).f1.length ≤ 40000 ∧ isB (rd_T33 L (i : Int)).f1
theorem lineA_size (x : S33) : (lineA x).size = x.f0.size + 1 + 2 * x.f1.length + 1 := by
  unfold lineA rowA
  rw [ByteArray.size_append, ByteArray.size_append, ByteArray.size_append, strOfNums_size, hexN_len]
  rfl
theorem okS_size {x : S33} (h : okS x = true) : (lineA x).size ≤ 442 := by
  unfold okS labOk txtOk at h
  simp only [Bool.and_eq_true, decide_eq_true_eq] at h
  rw [lineA_size]
  have h1 := h.1.1.2
  have h2 := h.2.2.2
  omega
theorem textA_size {L : List S33} : ∀ i : Nat, i ≤ L.length → (∀ j : Nat, j < i → okS (rd_T33 L (j : Int)) = true) → (textA (L.take i)).size ≤ 442 * i
  | 0, _, _ => by rw [List.take_zero]; exact Nat.zero_le _
  | i + 1, h, hk => by
    have h1 := textA_size i (by omega) (fun j hj => hk j (by omega))
    have h2 := okS_size (hk i (by omega))
    rw [textA_next (by omega), ByteArray.size_append]
    omega
/-- The first secret, from place i on, that can't be written. -/
def allOk (L : List S33) : Nat → Nat → Bool
  | 0, _ => true
  | d + 1, i => okS (rd_T33 L (i : Int)) && allOk L d (i + 1)
theorem allOk_at (L : List S33) : ∀ (d i : Nat), allOk L d i = true → ∀ j, i ≤ j → j < i + d → okS (rd_T33 L (j : Int)) = true
  | 0, i, _, j, h1, h2 => by omega
  | d + 1, i, h, j, h1, h2 => by
    have h3 := (Bool.and_eq_true _ _ ▸ h : _ ∧ _)
    by_cases c : j = i
    · rw [c]; exact h3.1
    · exact allOk_at L d (i + 1) h3.2 j (by omega) (by omega)
/-- The text of secrets. -/
def linesA (L : List S33) : ByteArray × Int := if allOk L L.length 0 = false then (⟨#[]⟩, 1) else if L.length > 60 then (⟨#[]⟩, 3) else (textA L, 0)
theorem linesR_text (L : List S33) (hS : Sized L) (hk : ∀ j : Nat, j < L.length → okS (rd_T33 L (j : Int)) = true) : ∀ (d i : Nat), i + d = L.length → Ev (fun k => wireglassref21_Lines.l1 k L (textA (L.take i)) (i : Int)) (textA L, 0)
  | 0, i, h => by
    have e : L.take i = L := List.take_of_length_le (by omega)
    exact Ev.step (f := fun _ => some (textA L, 0)) (fun k => by rw [e, wireglassref21_Lines.l1, if_neg (by omega)]) (Ev.now _)
  | d + 1, i, h => by
    have e1 : wrap64 ((i : Int) + 1) = ((i + 1 : Nat) : Int) := by rw [w64 (by have := hS.1; omega) (by have := hS.1; omega)]; omega
    have hi : i < L.length := by omega
    obtain ⟨h1, h2, h3⟩ := hS.2 i hi
    have hx := okS_size (hk i hi)
    have ht := textA_size (L := L) i (by omega) (fun j hj => hk j (by omega))
    have hh := hexR_ev _ h3 (by omega)
    have hl := lineA_size (rd_T33 L (i : Int))
    have hb := hS.1
    refine Ev.step (f := fun k => (wireglassref01_Hex.f k ((rd_T33 L (i : Int)).f1)).bind fun t159 => (if (((rd_T33 L (i : Int)).f0) ++ (⟨#[32]⟩ : ByteArray)).size + t159.size ≤ 9223372036854775807 then (if ((((rd_T33 L (i : Int)).f0) ++ (⟨#[32]⟩ : ByteArray)) ++ t159).size + 1 ≤ 9223372036854775807 then (if (textA (L.take i)).size + (((((rd_T33 L (i : Int)).f0) ++ (⟨#[32]⟩ : ByteArray)) ++ t159) ++ (⟨#[10]⟩ : ByteArray)).size ≤ 9223372036854775807 then (wireglassref21_Lines.l1 k L (textA (L.take i) ++ (((((rd_T33 L (i : Int)).f0) ++ (⟨#[32]⟩ : ByteArray)) ++ t159) ++ (⟨#[10]⟩ : ByteArray))) (wrap64 ((i : Int) + 1))) else (none)) else (none)) else (none))) (fun k => ?_) (Ev.bind hh ?_)
    · rw [wireglassref21_Lines.l1, if_pos (by omega), if_pos (by omega), if_pos (by omega)]
    · have s1 : (((rd_T33 L (i : Int)).f0) ++ (⟨#[32]⟩ : ByteArray)).size = (rd_T33 L (i : Int)).f0.size + 1 := by rw [ByteArray.size_append]; rfl
      have s2 : ((((rd_T33 L (i : Int)).f0) ++ (⟨#[32]⟩ : ByteArray)) ++ strOfNums (hexN (rd_T33 L (i : Int)).f1)).size = (rd_T33 L (i : Int)).f0.size + 1 + 2 * (rd_T33 L (i : Int)).f1.length := by rw [ByteArray.size_append, s1, strOfNums_size, hexN_len]
      refine Ev.if_pos (by rw [s1, strOfNums_size, hexN_len]; omega) (Ev.if_pos (by rw [s2]; omega) (Ev.if_pos (by rw [ByteArray.size_append (b := (⟨#[10]⟩ : ByteArray)), s2, show (⟨#[10]⟩ : ByteArray).size = 1 from rfl]; omega) ?_))
      rw [e1]
      have := linesR_text L hS hk d (i + 1) (by omega)
      rw [textA_next hi] at this
      exact this
theorem linesR_from (L : List S33) (hS : Sized L) : ∀ (d i : Nat), i + d = L.length → (∀ j : Nat, j < i → okS (rd_T33 L (j : Int)) = true) → Ev (fun k => wireglassref21_Lines.l0 k L (i : Int)) (if allOk L d i = false then (⟨#[]⟩, 1) else if L.length > 60 then (⟨#[]⟩, 3) else (textA L, 0))
  | 0, i, h, hk => by
    rw [allOk, if_neg (by decide)]
    by_cases c : L.length > 60
    · rw [if_pos c]
      exact Ev.step (f := fun _ => some _) (fun k => by rw [wireglassref21_Lines.l0, if_neg (by omega), if_pos (by omega)]) (Ev.now _)
    · rw [if_neg c]
      have := linesR_text L hS (fun j hj => hk j (by omega)) L.length 0 (by omega)
      rw [List.take_zero] at this
      exact Ev.step (fun k => by rw [wireglassref21_Lines.l0, if_neg (by omega), if_neg (by omega)]; rfl) this
  | d + 1, i, h, hk => by
    have e1 : wrap64 ((i : Int) + 1) = ((i + 1 : Nat) : Int) := by rw [w64 (by have := hS.1; omega) (by have := hS.1; omega)]; omega
    have hi : i < L.length := by omega
    obtain ⟨h1, h2, h3⟩ := hS.2 i hi
    have hlab := labR_ev (rd_T33 L (i : Int)).f0 (by omega)
    refine Ev.step (f := fun k => (wireglassref21_isLabel.f k ((rd_T33 L (i : Int)).f0)).bind fun t153 => (if t153 = true then (if 0 < (((rd_T33 L (i : Int)).f0).size : Int) then (if (bt ((rd_T33 L (i : Int)).f0) 0) = 35 then (some ((⟨#[]⟩ : ByteArray), 1)) else ((wireglassref21_isText.f ((rd_T33 L (i : Int)).f1)).bind fun t156 => (if t156 = true then (wireglassref21_Lines.l0 k L (wrap64 ((i : Int) + 1))) else (some ((⟨#[]⟩ : ByteArray), 1))))) else (none)) else (some ((⟨#[]⟩ : ByteArray), 1)))) (fun k => ?_) (Ev.bind hlab ?_)
    · rw [wireglassref21_Lines.l0, if_pos (by omega), if_pos (by omega)]
    · rw [allOk]
      by_cases c1 : labOk (rd_T33 L (i : Int)).f0 = true
      · have hz : 0 < (rd_T33 L (i : Int)).f0.size := by
          unfold labOk at c1
          simp only [Bool.and_eq_true, decide_eq_true_eq] at c1
          have := c1.1.1
          omega
        refine Ev.if_pos c1 (Ev.if_pos (by omega) ?_)
        by_cases c2 : bt (rd_T33 L (i : Int)).f0 0 = 35
        · have e : okS (rd_T33 L (i : Int)) = false := by unfold okS; rw [c2]; simp
          rw [e, Bool.false_and, if_pos rfl]
          exact Ev.if_pos c2 (Ev.now _)
        · refine Ev.if_neg c2 ?_
          refine Ev.congr (f := fun k => if txtOk (rd_T33 L (i : Int)).f1 = true then (wireglassref21_Lines.l0 k L (wrap64 ((i : Int) + 1))) else (some ((⟨#[]⟩ : ByteArray), 1))) (fun k => by rw [txtR, Option.bind_some]) ?_
          by_cases c3 : txtOk (rd_T33 L (i : Int)).f1 = true
          · have e : okS (rd_T33 L (i : Int)) = true := by
              unfold okS
              rw [c1, c3, beq_eq_false_iff_ne.mpr c2]
              rfl
            rw [e, Bool.true_and, e1]
            refine Ev.if_pos c3 (linesR_from L hS d (i + 1) (by omega) (fun j hj => ?_))
            by_cases c : j = i
            · rw [c]; exact e
            · exact hk j (by omega)
          · have e : okS (rd_T33 L (i : Int)) = false := by
              unfold okS
              rw [Bool.eq_false_iff.2 c3, Bool.and_false, Bool.and_false]
            rw [e, Bool.false_and, if_pos rfl]
            exact Ev.if_neg c3 (Ev.now _)
      · have e : okS (rd_T33 L (i : Int)) = false := by
          unfold okS
          rw [Bool.eq_false_iff.2 c1, Bool.false_and]
        rw [e, Bool.false_and, if_pos rfl]
        exact Ev.if_neg c1 (Ev.now _)
theorem linesR_ev (L : List S33) (hS : Sized L) : Ev (fun k => wireglassref21_Lines.f k L) (linesA L) := by
  unfold wireglassref21_Lines.f linesA
  exact linesR_from L hS L.length 0 (by omega) (fun j hj => by omega)
end Go.Proofs.YtbdakgkjomanlaaDoor.Pure
namespace Go.Proofs.YtbdakgkjomanlaaDoor.Pure
open Go.RowKit Go.Shelf Go.Proofs.YtbdakgkjomanlaaDoor.D Go.Proofs.YtbdakgkjomanlaaDoor.Hand Go.Proofs.YtbdakgkjomanlaaDoorW.PrintWords Go.Proofs.YtbdakgkjomanlaaDoorW.PrintLast Go.Proofs.YtbdakgkjomanlaaDoorW.PrintMore
set_option linter.unusedVariables false
theorem index_app (b r : List UInt8) (c : UInt8) (h : ∀ x ∈ b, x ≠ c) : Lib.indexByte (b ++ c :: r) c = (b.length : Int) := by
  have hc : (b ++ c :: r)[b.length]? = some c := by rw [List.getElem?_append_right (Nat.le_refl _), Nat.sub_self]; rfl
  have hge := Lib.indexByte_ge (b ++ c :: r) c
  by_cases c1 : Lib.indexByte (b ++ c :: r) c = -1
  · exact absurd hc (Lib.indexByte_none c1 _)
  · obtain ⟨k, hk⟩ : ∃ k : Nat, Lib.indexByte (b ++ c :: r) c = k := ⟨(Lib.indexByte (b ++ c :: r) c).toNat, by omega⟩
    obtain ⟨h1, h2⟩ := Lib.indexByte_some hk
    rw [hk]
    have hle : k ≤ b.length := by
      rcases Nat.lt_or_ge b.length k with h3 | h3
      · exact absurd hc (h2 _ h3)
      · exact h3
    rcases Nat.lt_or_ge k b.length with h3 | h3
    · rw [List.getElem?_append_left h3] at h1
      exact absurd rfl (h c (List.mem_of_getElem? h1))
    · congr 1
      omega
theorem labFrom_at (s : ByteArray) : ∀ (d i : Nat), labFrom s d i = true → ∀ j : Nat, i ≤ j → j < i + d → 33 ≤ bt s (j : Int) ∧ bt s (j : Int) ≤ 126
  | 0, i, _, j, h1, h2 => by omega
  | d + 1, i, h, j, h1, h2 => by
    rw [labFrom] at h
    split at h
    · cases h
    · next c1 =>
      split at h
      · cases h
      · next c2 =>
        by_cases c : j = i
        · subst c; omega
        · exact labFrom_at s d (i + 1) h j (by omega) (by omega)
theorem labOk_byte {s : ByteArray} (h : labOk s = true) : ∀ x ∈ s.data.toList, 33 ≤ x.toNat ∧ x.toNat ≤ 126 := by
  unfold labOk at h
  simp only [Bool.and_eq_true, decide_eq_true_eq] at h
  intro x hx
  obtain ⟨j, hj, hjx⟩ := List.getElem_of_mem hx
  have hjs : j < s.size := by rw [Lib.size_eq]; exact hj
  have h1 := labFrom_at s s.size 0 h.2 j (by omega) (by omega)
  have h2 := (bt_is s hjs x).2 (by rw [List.getElem?_eq_getElem hj, hjx])
  omega
theorem hexB_ne {l : List Int} (h : isB l) : ∀ x ∈ (strOfNums (hexN l)).data.toList, x ≠ 10 := by
  rw [sn_bytes]
  intro x hx
  obtain ⟨y, hy, rfl⟩ := List.mem_map.1 hx
  have h1 := hexN_dig h y hy
  have h2 := hexN_isB l y hy
  intro e
  have h3 := congrArg UInt8.toNat e
  rw [UInt8.toNat_ofNat', Nat.mod_eq_of_lt (by omega)] at h3
  have : (10 : UInt8).toNat = 10 := rfl
  omega
theorem rowA_list (x : S33) : (rowA x).data.toList = x.f0.data.toList ++ 32 :: (strOfNums (hexN x.f1)).data.toList := by
  unfold rowA
  rw [ByteArray.data_append, ByteArray.data_append, Array.toList_append, Array.toList_append, List.append_assoc]
  rfl
theorem lineA_list (x : S33) (t : ByteArray) : (lineA x ++ t).data.toList = (rowA x).data.toList ++ 10 :: t.data.toList := by
  unfold lineA
  rw [ByteArray.data_append, ByteArray.data_append, Array.toList_append, Array.toList_append, List.append_assoc]
  rfl
theorem okS_lab {x : S33} (h : okS x = true) : labOk x.f0 = true ∧ bt x.f0 0 ≠ 35 ∧ txtOk x.f1 = true := by
  unfold okS at h
  rw [Bool.and_eq_true, Bool.and_eq_true] at h
  refine ⟨h.1, ?_, h.2.2⟩
  intro e
  rw [e] at h
  simp at h
theorem rowA_ne {x : S33} (h : okS x = true) (hb : isB x.f1) : ∀ y ∈ (rowA x).data.toList, y ≠ 10 := by
  rw [rowA_list]
  intro y hy e
  subst e
  rcases List.mem_append.1 hy with h1 | h1
  · have := labOk_byte (okS_lab h).1 _ h1
    have : (10 : UInt8).toNat = 10 := rfl
    omega
  · rcases List.mem_cons.1 h1 with h2 | h2
    · exact absurd h2 (by decide)
    · exact hexB_ne hb _ h2 rfl
theorem rowA_sp {x : S33} (h : okS x = true) : spAt (rowA x) = (x.f0.size : Int) := by
  unfold spAt
  rw [rowA_list, index_app _ _ _ (fun y hy e => by
    subst e
    have := labOk_byte (okS_lab h).1 _ hy
    have : (32 : UInt8).toNat = 32 := rfl
    omega), ← Lib.size_eq]
theorem lineA_at {x : S33} (h : okS x = true) (hb : isB x.f1) (t : ByteArray) : lineAt (lineA x ++ t) = ((rowA x).size : Int) := by
  unfold lineAt
  rw [lineA_list, index_app _ _ _ (rowA_ne h hb), ← Lib.size_eq]
theorem lineA_sz (x : S33) : (lineA x).size = (rowA x).size + 1 := by unfold lineA; rw [ByteArray.size_append]; rfl
theorem lineA_hd {x : S33} (h : okS x = true) (hb : isB x.f1) (t : ByteArray) : lineHd (lineA x ++ t) = lineA x := by
  unfold lineHd
  rw [lineA_at h hb, if_pos (by omega), Int.toNat_natCast]
  refine ba_ext ?_
  rw [ext_list, List.drop_zero, Nat.sub_zero, ← lineA_sz, ByteArray.data_append, Array.toList_append, List.take_append_of_le_length (by rw [← Lib.size_eq]; exact Nat.le_refl _), List.take_of_length_le (by rw [← Lib.size_eq]; exact Nat.le_refl _)]
theorem lineA_tl {x : S33} (h : okS x = true) (hb : isB x.f1) (t : ByteArray) : lineTl (lineA x ++ t) = t := by
  unfold lineTl
  rw [lineA_at h hb, if_pos (by omega), Int.toNat_natCast]
  refine ba_ext ?_
  rw [ext_list, ← lineA_sz, ByteArray.data_append, Array.toList_append, List.drop_append_of_le_length (by rw [← Lib.size_eq]; exact Nat.le_refl _), List.drop_of_length_le (by rw [← Lib.size_eq]; exact Nat.le_refl _), List.nil_append, List.take_of_length_le (by rw [← Lib.size_eq, ByteArray.size_append]; omega)]
theorem text_lin : ∀ L : List S33, (∀ x ∈ L, okS x = true ∧ isB x.f1) → isLin (textA L) (L.map lineA)
  | [], _ => rfl
  | x :: r, h => by
    obtain ⟨h1, h2⟩ := h x (List.mem_cons_self ..)
    refine ⟨?_, ?_, ?_⟩
    · show 0 < (lineA x ++ textA r).size
      rw [ByteArray.size_append, lineA_sz]
      omega
    · exact (lineA_hd h1 h2 _).symm
    · show isLin (lineTl (lineA x ++ textA r)) _
      rw [lineA_tl h1 h2]
      exact text_lin r (fun y hy => h y (List.mem_cons_of_mem _ hy))
theorem bt_last (a : ByteArray) : bt (a ++ (⟨#[10]⟩ : ByteArray)) ((a.size : Nat) : Int) = 10 := by
  have hs : (a ++ (⟨#[10]⟩ : ByteArray)).size = a.size + 1 := by rw [ByteArray.size_append]; rfl
  refine (bt_is _ (by omega) 10).2 ?_
  rw [ByteArray.data_append, Array.toList_append, List.getElem?_append_right (by rw [← Lib.size_eq]; exact Nat.le_refl _), ← Lib.size_eq, Nat.sub_self]
  rfl
theorem trim_line (x : S33) : trimL (lineA x) = rowA x := by
  have hs := lineA_sz x
  unfold trimL
  rw [if_pos ⟨by omega, by rw [hs, Nat.add_sub_cancel]; exact bt_last (rowA x)⟩]
  refine ba_ext ?_
  rw [ext_list, hs, List.drop_zero, Nat.sub_zero, Nat.add_sub_cancel]
  unfold lineA
  rw [ByteArray.data_append, Array.toList_append, List.take_append_of_le_length (by rw [← Lib.size_eq]; exact Nat.le_refl _), List.take_of_length_le (by rw [← Lib.size_eq]; exact Nat.le_refl _)]
theorem rowA_lab {x : S33} : (rowA x).extract 0 x.f0.size = x.f0 := by
  refine ba_ext ?_
  rw [ext_list, List.drop_zero, Nat.sub_zero, rowA_list, List.take_append_of_le_length (by rw [← Lib.size_eq]; exact Nat.le_refl _), List.take_of_length_le (by rw [← Lib.size_eq]; exact Nat.le_refl _)]
theorem rowA_size (x : S33) : (rowA x).size = x.f0.size + 1 + (strOfNums (hexN x.f1)).size := by
  unfold rowA
  rw [ByteArray.size_append, ByteArray.size_append]
  rfl
theorem rowA_dig {x : S33} (h : okS x = true) : digOf (rowA x) = strOfNums (hexN x.f1) := by
  unfold digOf
  rw [rowA_sp h, Int.toNat_natCast]
  refine ba_ext ?_
  have e : (rowA x).data.toList = (x.f0.data.toList ++ [32]) ++ (strOfNums (hexN x.f1)).data.toList := by rw [rowA_list, List.append_assoc]; rfl
  have e2 : (x.f0.data.toList ++ [32]).length = x.f0.size + 1 := by rw [List.length_append, ← Lib.size_eq]; rfl
  rw [ext_list, e, List.drop_append_of_le_length (by omega), List.drop_of_length_le (by omega), List.nil_append, List.take_of_length_le (by rw [← Lib.size_eq, rowA_size]; omega)]
theorem sec_row {x : S33} (h : okS x = true) (hb : isB x.f1) : secOf (rowA x) = (x.f0, x.f1, true) := by
  obtain ⟨h1, h2, h3⟩ := okS_lab h
  unfold secOf
  rw [rowA_dig h, rowA_sp h, if_neg (by omega), Int.toNat_natCast, rowA_lab, if_neg (by rw [h1]; decide), unhexS_hex hb, h3]
  simp
theorem bt_head {x : S33} (h : okS x = true) : bt (rowA x) 0 = bt x.f0 0 ∧ 0 < (rowA x).size := by
  obtain ⟨h1, _, _⟩ := okS_lab h
  have hz : 0 < x.f0.size := by
    unfold labOk at h1
    simp only [Bool.and_eq_true, decide_eq_true_eq] at h1
    have := h1.1.1
    omega
  have hs := rowA_size x
  refine ⟨?_, by omega⟩
  obtain ⟨c, hc, hb⟩ := bt_get x.f0 hz
  rw [show (0 : Int) = ((0 : Nat) : Int) from rfl, hb]
  refine (bt_is _ (by omega) c).2 ?_
  rw [rowA_list, List.getElem?_append_left (by rw [← Lib.size_eq]; exact hz)]
  exact hc
theorem step_row {x : S33} (h : okS x = true) (hb : isB x.f1) (L : List S33) : logStep L (trimL (lineA x)) = some (L ++ [x]) := by
  obtain ⟨h1, h2⟩ := bt_head h
  unfold logStep
  rw [trim_line, if_neg (by rintro (e | e); omega; exact (okS_lab h).2.1 (h1.symm.trans e)), sec_row h hb, if_pos rfl]
theorem log_rows : ∀ (r acc : List S33) (n : Nat), (∀ x ∈ r, okS x = true ∧ isB x.f1) → (acc ++ r).length ≤ 60 → logF acc n (r.map lineA) = (acc ++ r, ((n + r.length : Nat) : Int), 0)
  | [], acc, n, _, h => by
    rw [List.append_nil] at h ⊢
    rw [List.map_nil, logF, if_neg (by omega)]
    rfl
  | x :: r, acc, n, hx, h => by
    obtain ⟨h1, h2⟩ := hx x (List.mem_cons_self ..)
    rw [List.map_cons, logF, step_row h1 h2]
    show logF (acc ++ [x]) (n + 1) (r.map lineA) = _
    rw [log_rows r (acc ++ [x]) (n + 1) (fun y hy => hx y (List.mem_cons_of_mem _ hy)) (by rw [List.append_assoc]; exact h), List.append_assoc, List.length_cons]
    congr 3
    omega
theorem text_size : ∀ L : List S33, (∀ x ∈ L, okS x = true) → (textA L).size ≤ 442 * L.length
  | [], _ => Nat.zero_le _
  | x :: r, h => by
    have h1 := okS_size (h x (List.mem_cons_self ..))
    have h2 := text_size r (fun y hy => h y (List.mem_cons_of_mem _ hy))
    show (lineA x ++ textA r).size ≤ _
    rw [ByteArray.size_append, List.length_cons]
    omega
/-- The text of secrets is read as they were. -/
theorem read_back {L : List S33} (hL : L.length ≤ 60) (h : ∀ x ∈ L, okS x = true ∧ isB x.f1) : LogS (textA L) (L, (L.length : Int), 0) := by
  have hs := text_size L (fun x hx => (h x hx).1)
  unfold LogS
  rw [if_neg (by omega)]
  refine ⟨L.map lineA, text_lin L h, ?_⟩
  rw [log_rows L [] 0 h (by simpa using hL), List.nil_append, Nat.zero_add]
theorem okS_all {L : List S33} (hS : Sized L) (h : allOk L L.length 0 = true) : ∀ x ∈ L, okS x = true ∧ isB x.f1 := by
  intro x hx
  obtain ⟨j, hj, hjx⟩ := List.getElem_of_mem hx
  have e : rd_T33 L (j : Int) = x := by
    unfold rd_T33
    rw [Int.toNat_natCast, List.getD_eq_getElem?_getD, List.getElem?_eq_getElem hj, Option.getD_some, hjx]
  have h1 := allOk_at L L.length 0 h j (by omega) (by omega)
  have h2 := (hS.2 j hj).2.2
  rw [e] at h1 h2
  exact ⟨h1, h2⟩
end Go.Proofs.YtbdakgkjomanlaaDoor.Pure
