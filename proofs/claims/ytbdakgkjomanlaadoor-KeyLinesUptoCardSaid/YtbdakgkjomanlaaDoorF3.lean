/- The secrets of a text, in plain Lean, and that the reference's are they. Conditions: a text of at most 131072 bytes. -/
import Derived.Test.YtbdakgkjomanlaaDoorD3
import Derived.Test.YtbdakgkjomanlaaDoorE7
import Derived.Lib.IndexLaws
import Derived.Test.YtbdakgkjomanlaaDoorShelf
import Derived.Test.YtbdakgkjomanlaaDoorDx0
import Derived.Test.YtbdakgkjomanlaaDoorDx3
import Derived.Test.YtbdakgkjomanlaaDoorDx4
import Derived.Test.YtbdakgkjomanlaaDoorDx6
import Derived.Test.YtbdakgkjomanlaaDoorDx7
namespace Go.Proofs.YtbdakgkjomanlaaDoor.Pure
open Go.RowKit Go.Shelf Go.Proofs.YtbdakgkjomanlaaDoor.D Go.Proofs.YtbdakgkjomanlaaDoor.Hand Go.Proofs.YtbdakgkjomanlaaDoorW.PrintWords Go.Proofs.YtbdakgkjomanlaaDoorW.PrintLast Go.Proofs.YtbdakgkjomanlaaDoorW.PrintMore
set_option linter.unusedVariables false
theorem ba_ext {a b : ByteArray} (h : a.data.toList = b.data.toList) : a = b := by rw [← Lib.mk_data a, ← Lib.mk_data b, h]
theorem ba_eq {a b : ByteArray} (h : a.toList = b.toList) : a = b := ba_ext (by rw [Lib.toList_data, Lib.toList_data] at h; exact h)
theorem ext_list (s : ByteArray) (a b : Nat) : (s.extract a b).data.toList = (s.data.toList.drop a).take (b - a) := by rw [Lib.extract_eq]
theorem ext_size (s : ByteArray) (a b : Nat) (h : b ≤ s.size) : (s.extract a b).size = b - a := by rw [ByteArray.size_extract]; omega
theorem bt_get (s : ByteArray) {j : Nat} (h : j < s.size) : ∃ c : UInt8, s.data.toList[j]? = some c ∧ bt s (j : Int) = (c.toNat : Int) := by
  refine ⟨s.data.toList[j]'(by rw [← Lib.size_eq]; exact h), List.getElem?_eq_getElem _, ?_⟩
  unfold bt
  rw [Int.toNat_natCast, dif_pos h]
  rfl
theorem bt_is (s : ByteArray) {j : Nat} (h : j < s.size) (x : UInt8) : bt s (j : Int) = (x.toNat : Int) ↔ s.data.toList[j]? = some x := by
  obtain ⟨c, h1, h2⟩ := bt_get s h
  rw [h1, h2]
  constructor
  · intro e
    congr 1
    exact UInt8.toNat_inj.1 (by omega)
  · intro e
    injection e with e
    rw [e]
/-- Where a byte stands first. -/
theorem first_at {s : ByteArray} {x : UInt8} {k : Nat} (h : Lib.indexByte s.data.toList x = k) : k < s.size ∧ bt s (k : Int) = (x.toNat : Int) ∧ ∀ j, j < k → bt s (j : Int) ≠ (x.toNat : Int) := by
  obtain ⟨h1, h2⟩ := Lib.indexByte_some h
  have hk : k < s.size := by rw [Lib.size_eq]; exact (List.getElem?_eq_some_iff.1 h1).1
  exact ⟨hk, (bt_is s hk x).2 h1, fun j hj e => h2 j hj ((bt_is s (by omega) x).1 e)⟩
theorem first_no {s : ByteArray} {x : UInt8} (h : Lib.indexByte s.data.toList x = -1) : ∀ j, j < s.size → bt s (j : Int) ≠ (x.toNat : Int) :=
  fun j hj e => Lib.indexByte_none h j ((bt_is s hj x).1 e)
theorem first_or (s : ByteArray) (x : UInt8) : Lib.indexByte s.data.toList x = -1 ∨ ∃ k : Nat, Lib.indexByte s.data.toList x = k := by
  have h := Lib.indexByte_ge s.data.toList x
  by_cases c : Lib.indexByte s.data.toList x = -1
  · exact .inl c
  · exact .inr ⟨(Lib.indexByte s.data.toList x).toNat, by omega⟩
/-! ### labels -/
def labFrom (s : ByteArray) : Nat → Nat → Bool
  | 0, _ => true
  | d + 1, i => if bt s (i : Int) < 33 then false else if bt s (i : Int) > 126 then false else labFrom s d (i + 1)
def labOk (s : ByteArray) : Bool := decide (1 ≤ s.size) && decide (s.size ≤ 40) && labFrom s s.size 0
theorem labB_from (s : ByteArray) (hs : s.size ≤ 1000000) : ∀ (d i : Nat), i + d = s.size → Ev (fun k => key_isLabel.l0 k s (s.size : Int) (i : Int)) (decide (1 ≤ s.size) && decide (s.size ≤ 40) && labFrom s d i)
  | 0, i, h => by
    by_cases c : s.size = 0
    · refine Ev.step (f := fun _ => some _) (fun k => ?_) (Ev.now _)
      have e : s.toList = [] := by rw [Lib.toList_data]; exact List.eq_nil_of_length_eq_zero (by rw [← Lib.size_eq]; exact c)
      rw [key_isLabel.l0, if_neg (by omega), if_pos e, c]
      rfl
    · refine Ev.step (f := fun _ => some _) (fun k => ?_) (Ev.now _)
      have e : ¬ s.toList = [] := fun e => c (by rw [Lib.toList_data] at e; rw [Lib.size_eq, e]; rfl)
      rw [key_isLabel.l0, if_neg (by omega), if_neg e, labFrom, decide_eq_true (show 1 ≤ s.size by omega), Bool.true_and, Bool.and_true]
      congr 1
      exact decide_eq_decide.2 (by omega)
  | d + 1, i, h => by
    have e1 : wrap64 ((i : Int) + 1) = ((i + 1 : Nat) : Int) := by rw [w64 (by omega) (by omega)]; omega
    rw [labFrom]
    by_cases c1 : bt s (i : Int) < 33
    · rw [if_pos c1, Bool.and_false]
      exact Ev.step (f := fun _ => some false) (fun k => by rw [key_isLabel.l0, if_pos (by omega), if_pos (by omega), if_pos (by omega), if_pos c1]) (Ev.now _)
    · rw [if_neg c1]
      by_cases c2 : bt s (i : Int) > 126
      · rw [if_pos c2, Bool.and_false]
        exact Ev.step (f := fun _ => some false) (fun k => by rw [key_isLabel.l0, if_pos (by omega), if_pos (by omega), if_pos (by omega), if_neg c1, if_pos c2]) (Ev.now _)
      · rw [if_neg c2]
        exact Ev.step (fun k => by rw [key_isLabel.l0, if_pos (by omega), if_pos (by omega), if_pos (by omega), if_neg c1, if_neg c2, e1]) (labB_from s hs d (i + 1) (by omega))
theorem labB_ev (s : ByteArray) (hs : s.size ≤ 1000000) : Ev (fun k => key_isLabel.f k s) (labOk s) := labB_from s hs s.size 0 (by omega)
theorem labR_from (s : ByteArray) (hs : s.size ≤ 1000000) : ∀ (d i : Nat), i + d = s.size → Ev (fun k => wireglassref21_isLabel.l0 k s (i : Int)) (labFrom s d i)
  | 0, i, h => Ev.step (f := fun _ => some true) (fun k => by rw [wireglassref21_isLabel.l0, if_neg (by omega)]) (Ev.now _)
  | d + 1, i, h => by
    have e1 : wrap64 ((i : Int) + 1) = ((i + 1 : Nat) : Int) := by rw [w64 (by omega) (by omega)]; omega
    rw [labFrom]
    by_cases c1 : bt s (i : Int) < 33
    · rw [if_pos c1]
      exact Ev.step (f := fun _ => some false) (fun k => by rw [wireglassref21_isLabel.l0, if_pos (by omega), if_pos (by omega), if_pos c1]) (Ev.now _)
    · rw [if_neg c1]
      by_cases c2 : bt s (i : Int) > 126
      · rw [if_pos c2]
        exact Ev.step (f := fun _ => some false) (fun k => by rw [wireglassref21_isLabel.l0, if_pos (by omega), if_pos (by omega), if_neg c1, if_pos c2]) (Ev.now _)
      · rw [if_neg c2]
        exact Ev.step (fun k => by rw [wireglassref21_isLabel.l0, if_pos (by omega), if_pos (by omega), if_neg c1, if_neg c2, e1]) (labR_from s hs d (i + 1) (by omega))
theorem labR_ev (s : ByteArray) (hs : s.size ≤ 1000000) : Ev (fun k => wireglassref21_isLabel.f k s) (labOk s) := by
  unfold wireglassref21_isLabel.f labOk
  by_cases c : 1 ≤ s.size
  · by_cases c2 : s.size ≤ 40
    · rw [decide_eq_true c, decide_eq_true c2, Bool.true_and, Bool.true_and]
      refine Ev.if_neg (by omega) (Ev.step (fun k => ?_) (labR_from s hs s.size 0 (by omega)))
      rw [wireglassref21_isLabel.j0, decide_eq_false (by omega), if_neg (by decide)]
      rfl
    · rw [decide_eq_true c, decide_eq_false c2, Bool.true_and, Bool.false_and]
      refine Ev.if_neg (by omega) (Ev.step (f := fun _ => some false) (fun k => ?_) (Ev.now _))
      rw [wireglassref21_isLabel.j0, decide_eq_true (by omega), if_pos rfl]
  · rw [decide_eq_false c, Bool.false_and, Bool.false_and]
    refine Ev.if_pos (by omega) (Ev.step (f := fun _ => some false) (fun k => ?_) (Ev.now _))
    rw [wireglassref21_isLabel.j0, if_pos rfl]
def txtOk (l : List Int) : Bool := decide (1 ≤ l.length) && decide (l.length ≤ 200)
theorem txtR (l : List Int) : wireglassref21_isText.f l = some (txtOk l) := by
  unfold wireglassref21_isText.f txtOk
  by_cases c : 1 ≤ l.length
  · rw [if_pos (by omega), decide_eq_true c, Bool.true_and]
    congr 1
    exact decide_eq_decide.2 (by omega)
  · rw [if_neg (by omega), decide_eq_false c, Bool.false_and]
theorem txtB (l : List Int) : key_isSecret.f l = some (txtOk l) := by
  unfold key_isSecret.f txtOk
  by_cases c : 1 ≤ l.length
  · rw [if_pos (by omega), decide_eq_true c, Bool.true_and]
    congr 1
    exact decide_eq_decide.2 (by omega)
  · rw [if_neg (by omega), decide_eq_false c, Bool.false_and]
/-! ### a line's secret -/
def spAt (s : ByteArray) : Int := Lib.indexByte s.data.toList 32
def digOf (s : ByteArray) : ByteArray := s.extract ((spAt s).toNat + 1) s.size
def secOf (s : ByteArray) : ByteArray × List Int × Bool :=
  if spAt s < 0 then (⟨#[]⟩, [], false) else if labOk (s.extract 0 (spAt s).toNat) = false then (⟨#[]⟩, [], false)
  else (s.extract 0 (spAt s).toNat, (unhexS (digOf s)).1, decide ((unhexS (digOf s)).2 = 0) && (txtOk (unhexS (digOf s)).1 && decide (strOfNums (hexN (unhexS (digOf s)).1) = digOf s)))
theorem unhL_isB (s : ByteArray) : ∀ (d i : Nat) (acc : List Int), isB acc → isB (unhexL s d i acc).1
  | 0, i, acc, h => h
  | d + 1, i, acc, h => by
    unfold unhexL
    split
    · exact isB_nil
    · next h1 =>
      split
      · exact isB_nil
      · next h2 =>
        have a1 := digV_bd (bt s (i : Int))
        have a2 := digV_bd (bt s ((i + 1 : Nat) : Int))
        exact unhL_isB s d (i + 2) _ (isB_app h (isB_one (by omega) (by omega)))
theorem unhS_isB (s : ByteArray) : isB (unhexS s).1 := by
  unfold unhexS
  split
  · exact unhL_isB s _ 0 [] isB_nil
  · exact isB_nil
theorem unhL_len (s : ByteArray) : ∀ (d i : Nat) (acc : List Int), (unhexL s d i acc).1.length ≤ acc.length + d
  | 0, i, acc => Nat.le_refl _
  | d + 1, i, acc => by
    unfold unhexL
    split
    · simp
    · split
      · simp
      · have := unhL_len s d (i + 2) (acc ++ [16 * digV (bt s (i : Int)) + digV (bt s ((i + 1 : Nat) : Int))])
        rw [List.length_append, List.length_singleton] at this
        omega
theorem unhS_len (s : ByteArray) : (unhexS s).1.length ≤ s.size := by
  unfold unhexS
  split
  · have := unhL_len s (s.size / 2) 0 []
    rw [List.length_nil] at this
    omega
  · simp
theorem secR_j2 (s : ByteArray) (hs : s.size ≤ 1000000) (k0 : Nat) (hk : k0 < s.size) : Ev (fun k => wireglassref21_secret.j2 k s (k0 : Int) false) (s.extract 0 k0, (unhexS (s.extract (k0 + 1) s.size)).1, decide ((unhexS (s.extract (k0 + 1) s.size)).2 = 0) && (txtOk (unhexS (s.extract (k0 + 1) s.size)).1 && decide (strOfNums (hexN (unhexS (s.extract (k0 + 1) s.size)).1) = s.extract (k0 + 1) s.size))) := by
  have e1 : wrap64 ((k0 : Int) + 1) = ((k0 + 1 : Nat) : Int) := by rw [w64 (by omega) (by omega)]; omega
  obtain ⟨g, hg⟩ : ∃ g, s.extract (k0 + 1) s.size = g := ⟨_, rfl⟩
  have hgs : g.size ≤ 1000000 := by rw [← hg, ByteArray.size_extract]; omega
  have hx := unhexR_ev g hgs
  have hi := unhS_isB g
  have hl := unhS_len g
  rw [hg]
  obtain ⟨y1, hy1⟩ : ∃ y, unhexS g = y := ⟨_, rfl⟩
  rw [hy1] at hx hi hl ⊢
  refine Ev.step (f := fun k => (wireglassref01_Unhex.f k g).bind fun bt166 => (if 0 ≤ (k0 : Int) then (if (k0 : Int) ≤ (s.size : Int) then (if bt166.2 = 0 then ((wireglassref21_isText.f bt166.1).bind fun t170 => (if t170 = true then ((wireglassref01_Hex.f k bt166.1).bind fun t171 => (some (s.extract 0 (k0 : Int).toNat, bt166.1, (t171.toList == g.toList)))) else (some (s.extract 0 (k0 : Int).toNat, bt166.1, false)))) else (some (s.extract 0 (k0 : Int).toNat, bt166.1, false))) else (none)) else (none))) (fun k => ?_) ?_
  · rw [wireglassref21_secret.j2, if_neg (by decide), e1, if_pos (by omega), if_pos (by omega), Int.toNat_natCast, hg]
  · refine Ev.bind hx ?_
    rw [Int.toNat_natCast]
    refine Ev.if_pos (by omega) (Ev.if_pos (by omega) ?_)
    by_cases c0 : y1.2 = 0
    · rw [decide_eq_true c0, Bool.true_and]
      refine Ev.if_pos c0 ?_
      refine Ev.congr (f := fun k => if txtOk y1.1 = true then ((wireglassref01_Hex.f k y1.1).bind fun t171 => (some (s.extract 0 k0, y1.1, (t171.toList == g.toList)))) else (some (s.extract 0 k0, y1.1, false))) (fun k => by rw [txtR, Option.bind_some]) ?_
      by_cases c1 : txtOk y1.1 = true
      · rw [c1, Bool.true_and]
        refine Ev.if_pos rfl ?_
        have hh := hexR_ev y1.1 hi (by omega)
        refine Ev.bind hh ?_
        have e : ((strOfNums (hexN y1.1)).toList == g.toList) = decide (strOfNums (hexN y1.1) = g) := by
          by_cases c : strOfNums (hexN y1.1) = g
          · rw [c, decide_eq_true rfl]; simp
          · rw [decide_eq_false c]
            exact beq_eq_false_iff_ne.mpr fun h => c (ba_eq h)
        rw [e]
        exact Ev.now _
      · rw [Bool.eq_false_iff.2 c1, Bool.false_and]
        exact Ev.if_neg (by decide) (Ev.now _)
    · rw [decide_eq_false c0, Bool.false_and]
      exact Ev.if_neg c0 (Ev.now _)
theorem secR_scan (s : ByteArray) (hs : s.size ≤ 1000000) (K : Nat) (hK : K ≤ s.size) (hn : ∀ j, j < K → bt s (j : Int) ≠ 32) (he : K < s.size → bt s (K : Int) = 32) (u : ByteArray × List Int × Bool) (h1 : Ev (fun k => wireglassref21_secret.j1 k s (K : Int)) u) : ∀ (d i : Nat), i + d = K → Ev (fun k => wireglassref21_secret.l0 k s (i : Int)) u
  | 0, i, h => by
    have hi : i = K := by omega
    subst hi
    refine Ev.step (fun k => ?_) h1
    by_cases c : i < s.size
    · rw [wireglassref21_secret.l0, if_pos (by omega), if_pos (by omega), if_pos (he c)]
    · rw [wireglassref21_secret.l0, if_neg (by omega)]
  | d + 1, i, h => by
    have e1 : wrap64 ((i : Int) + 1) = ((i + 1 : Nat) : Int) := by rw [w64 (by omega) (by omega)]; omega
    refine Ev.step (fun k => ?_) (secR_scan s hs K hK hn he u h1 d (i + 1) (by omega))
    rw [wireglassref21_secret.l0, if_pos (by omega), if_pos (by omega), if_neg (hn i (by omega)), e1]
theorem secR_ev (s : ByteArray) (hs : s.size ≤ 1000000) : Ev (fun k => wireglassref21_secret.f k s) (secOf s) := by
  rcases first_or s 32 with h | ⟨K, h⟩
  · have hno := first_no h
    have e : secOf s = (⟨#[]⟩, [], false) := by unfold secOf spAt; rw [h, if_pos (by omega)]
    rw [e]
    refine secR_scan s hs s.size (Nat.le_refl _) (fun j hj => hno j hj) (fun h => by omega) _ ?_ s.size 0 (by omega)
    refine Ev.step (f := fun k => wireglassref21_secret.j2 k s (s.size : Int) true) (fun k => by rw [wireglassref21_secret.j1, if_pos rfl]) ?_
    exact Ev.step (f := fun _ => some (⟨#[]⟩, [], false)) (fun k => by rw [wireglassref21_secret.j2, if_pos rfl]) (Ev.now _)
  · obtain ⟨h1, h2, h3⟩ := first_at h
    have hsp : spAt s = (K : Int) := h
    refine secR_scan s hs K (by omega) (fun j hj => h3 j hj) (fun _ => h2) _ ?_ K 0 (by omega)
    have hl := labR_ev (s.extract 0 K) (by rw [ByteArray.size_extract]; omega)
    refine Ev.step (f := fun k => (wireglassref21_isLabel.f k (s.extract 0 K)).bind fun t165 => (wireglassref21_secret.j2 k s (K : Int) (!t165))) (fun k => ?_) (Ev.bind hl ?_)
    · rw [wireglassref21_secret.j1, if_neg (by omega), if_pos (by omega), if_pos (by omega), Int.toNat_natCast]
    · unfold secOf digOf
      rw [hsp, if_neg (by omega), Int.toNat_natCast]
      by_cases c : labOk (s.extract 0 K) = false
      · rw [if_pos c, c]
        exact Ev.step (f := fun _ => some (⟨#[]⟩, [], false)) (fun k => by rw [wireglassref21_secret.j2, if_pos (by decide)]) (Ev.now _)
      · have c2 : labOk (s.extract 0 K) = true := by revert c; cases labOk (s.extract 0 K) <;> simp
        rw [if_neg c, c2]
        exact secR_j2 s hs K h1
end Go.Proofs.YtbdakgkjomanlaaDoor.Pure
namespace Go.Proofs.YtbdakgkjomanlaaDoor.Pure
open Go.RowKit Go.Shelf Go.Proofs.YtbdakgkjomanlaaDoor.D Go.Proofs.YtbdakgkjomanlaaDoor.Hand Go.Proofs.YtbdakgkjomanlaaDoorW.PrintWords Go.Proofs.YtbdakgkjomanlaaDoorW.PrintLast Go.Proofs.YtbdakgkjomanlaaDoorW.PrintMore
set_option linter.unusedVariables false
def trimL (l : ByteArray) : ByteArray := if 0 < l.size ∧ bt l ((l.size - 1 : Nat) : Int) = 10 then l.extract 0 (l.size - 1) else l
theorem trim_eq (l : ByteArray) (hl : l.size ≤ 1000000) : strings_TrimSuffix.f l ⟨#[10]⟩ = some (trimL l) := by
  have h1 : (⟨#[10]⟩ : ByteArray).size = 1 := rfl
  have h2 : (⟨#[10]⟩ : ByteArray).toList = [10] := by rw [Lib.toList_data]
  unfold strings_TrimSuffix.f stringslite_TrimSuffix.f stringslite_HasSuffix.f trimL
  rw [h1, h2]
  by_cases c : 0 < l.size
  · have e1 : wrap64 ((l.size : Int) - ((1 : Nat) : Int)) = ((l.size - 1 : Nat) : Int) := by rw [w64 (by omega) (by omega)]; omega
    rw [e1, if_pos (by omega), if_pos (by omega), if_pos (by omega), Option.bind_some, Int.toNat_natCast]
    obtain ⟨x, hx, hb⟩ := bt_get l (j := l.size - 1) (by omega)
    have e2 : (l.extract (l.size - 1) l.size).toList = [x] := by
      obtain ⟨hlt, hxe⟩ := List.getElem?_eq_some_iff.1 hx
      rw [Lib.toList_data, ext_list, List.drop_eq_getElem_cons hlt, hxe, show l.size - (l.size - 1) = 1 by omega]
      rfl
    rw [e2]
    by_cases c2 : x = 10
    · subst c2
      rw [if_pos (by decide), if_pos (by omega), if_pos (by omega), Option.bind_some, if_pos ⟨c, by rw [hb]; rfl⟩]
    · rw [if_neg (by simp [c2]), Option.bind_some, if_neg]
      rintro ⟨_, h⟩
      rw [hb] at h
      exact c2 (UInt8.toNat_inj.1 (by have : (10 : UInt8).toNat = 10 := rfl; omega))
  · rw [if_neg (by omega), Option.bind_some, if_neg (by decide), Option.bind_some, if_neg (fun h => c h.1)]
/-- What a row adds. -/
def logStep (L : List S33) (row : ByteArray) : Option (List S33) :=
  if row.size = 0 ∨ bt row 0 = 35 then some L else if (secOf row).2.2 = true then some (L ++ [⟨(secOf row).1, (secOf row).2.1⟩]) else none
/-- The secrets of lines, behind some. -/
def logF : List S33 → Nat → List ByteArray → List S33 × Int × Int
  | L, n, [] => if L.length > 60 then ([], 0, 3) else (L, (n : Int), 0)
  | L, n, l :: r => match logStep L (trimL l) with
    | none => ([], ((n + 1 : Nat) : Int), 2)
    | some L2 => logF L2 (n + 1) r
def LogS (s : ByteArray) (u : List S33 × Int × Int) : Prop := if s.size > 131072 then u = ([], 0, 3) else ∃ ls, isLin s ls ∧ u = logF [] 0 ls
theorem logStep_len {L L2 : List S33} {row : ByteArray} (h : logStep L row = some L2) : L2.length ≤ L.length + 1 := by
  unfold logStep at h
  split at h
  · injection h with h; subst h; omega
  · split at h
    · injection h with h; subst h; rw [List.length_append, List.length_singleton]; omega
    · cases h
/-- A row's end is behind it: what comes of it. -/
theorem refL_row (s : ByteArray) (hs : s.size ≤ 131072) (a e : Nat) (h1 : a ≤ e) (h2 : e ≤ s.size) (L : List S33) (n : Nat) (hL : L.length ≤ 200000) (hn : n ≤ 200000) (u : List S33 × Int × Int) (row : ByteArray) (hrow : s.extract a e = row)
    (hno : logStep L row = none → u = ([], ((n + 1 : Nat) : Int), 2)) (hyes : ∀ L2, logStep L row = some L2 → Ev (fun k => wireglassref21_Log.l0 k s L2 ((n + 1 : Nat) : Int) (wrap64 ((e : Int) + 1))) u) :
    Ev (fun k => wireglassref21_Log.j2 k s L (n : Int) (a : Int) (e : Int)) u := by
  have e1 : wrap64 ((n : Int) + 1) = ((n + 1 : Nat) : Int) := by rw [w64 (by omega) (by omega)]; omega
  have hrs : row.size ≤ 1000000 := by rw [← hrow, ByteArray.size_extract]; omega
  by_cases c0 : row.size = 0
  · have el : row.toList = [] := by rw [Lib.toList_data]; exact List.eq_nil_of_length_eq_zero (by rw [← Lib.size_eq]; exact c0)
    have hst : logStep L row = some L := by unfold logStep; rw [if_pos (.inl c0)]
    refine Ev.step (f := fun k => wireglassref21_Log.j3 k s L ((n + 1 : Nat) : Int) (e : Int) row false) (fun k => ?_) ?_
    · rw [wireglassref21_Log.j2, if_pos (by omega), if_pos (by omega), if_pos (by omega), Int.toNat_natCast, Int.toNat_natCast, hrow, if_pos el, e1]
    · refine Ev.step (fun k => ?_) (hyes L hst)
      rw [wireglassref21_Log.j3, if_neg (by decide)]
  · have el : ¬ row.toList = [] := fun e => c0 (by rw [Lib.toList_data] at e; rw [Lib.size_eq, e]; rfl)
    refine Ev.step (f := fun k => wireglassref21_Log.j3 k s L ((n + 1 : Nat) : Int) (e : Int) row (bt row 0 != 35)) (fun k => ?_) ?_
    · rw [wireglassref21_Log.j2, if_pos (by omega), if_pos (by omega), if_pos (by omega), Int.toNat_natCast, Int.toNat_natCast, hrow, if_neg el, if_pos (by omega), e1]
    · by_cases c1 : bt row 0 = 35
      · have hst : logStep L row = some L := by unfold logStep; rw [if_pos (.inr c1)]
        refine Ev.step (fun k => ?_) (hyes L hst)
        rw [wireglassref21_Log.j3, c1, if_neg (by decide)]
      · have hb : (bt row 0 != 35) = true := bne_iff_ne.mpr c1
        have hsec := secR_ev row hrs
        refine Ev.step (f := fun k => (wireglassref21_secret.f k row).bind fun bt172 => (if bt172.2.2 = true then (if L.length < 3518437208883 then (wireglassref21_Log.l0 k s (L ++ [(⟨bt172.1, bt172.2.1⟩ : S33)]) ((n + 1 : Nat) : Int) (wrap64 ((e : Int) + 1))) else (none)) else (some (([] : List (S33)), ((n + 1 : Nat) : Int), 2)))) (fun k => ?_) (Ev.bind hsec ?_)
        · rw [wireglassref21_Log.j3, hb, if_pos rfl]
        · by_cases c2 : (secOf row).2.2 = true
          · have hst : logStep L row = some (L ++ [⟨(secOf row).1, (secOf row).2.1⟩]) := by
              unfold logStep
              rw [if_neg (by rintro (h | h); exact c0 h; exact c1 h), if_pos c2]
            rw [c2]
            exact Ev.if_pos rfl (Ev.if_pos (by omega) (hyes _ hst))
          · have hst : logStep L row = none := by
              unfold logStep
              rw [if_neg (by rintro (h | h); exact c0 h; exact c1 h), if_neg c2]
            rw [hno hst]
            exact Ev.if_neg c2 (Ev.now _)
/-- From a row's begin to its end. -/
theorem refL_scan (s : ByteArray) (hs : s.size ≤ 131072) (a K : Nat) (hK : K ≤ s.size) (L : List S33) (n : Nat) (u : List S33 × Int × Int) (hn : ∀ j, a ≤ j → j < K → bt s (j : Int) ≠ 10) (he : K < s.size → bt s (K : Int) = 10) (h1 : Ev (fun k => wireglassref21_Log.j2 k s L (n : Int) (a : Int) (K : Int)) u) : ∀ (d i : Nat), i + d = K → a ≤ i → Ev (fun k => wireglassref21_Log.l1 k s L (n : Int) (a : Int) (i : Int)) u
  | 0, i, h, ha => by
    have hi : i = K := by omega
    subst hi
    refine Ev.step (fun k => ?_) h1
    by_cases c : i < s.size
    · rw [wireglassref21_Log.l1, if_pos (by omega), if_pos (by omega), if_pos (he c)]
    · rw [wireglassref21_Log.l1, if_neg (by omega)]
  | d + 1, i, h, ha => by
    have e1 : wrap64 ((i : Int) + 1) = ((i + 1 : Nat) : Int) := by rw [w64 (by omega) (by omega)]; omega
    refine Ev.step (fun k => ?_) (refL_scan s hs a K hK L n u hn he h1 d (i + 1) (by omega) (by omega))
    rw [wireglassref21_Log.l1, if_pos (by omega), if_pos (by omega), if_neg (hn i ha (by omega)), e1]
theorem bt_ext (s : ByteArray) (a b j : Nat) (h : a + j < b) (hb : b ≤ s.size) : bt (s.extract a b) (j : Int) = bt s ((a + j : Nat) : Int) := by
  have hz := ext_size s a b hb
  obtain ⟨c, h1, h2⟩ := bt_get (s.extract a b) (j := j) (by omega)
  rw [h2]
  refine ((bt_is s (by omega) c).2 ?_).symm
  rw [ext_list, List.getElem?_take_of_lt (by omega), List.getElem?_drop] at h1
  exact h1
theorem ext_ext (s : ByteArray) (a b c d : Nat) (h : a + d ≤ b) (hb : b ≤ s.size) : (s.extract a b).extract c d = s.extract (a + c) (a + d) := by
  refine ba_ext ?_
  rw [ext_list, ext_list, ext_list, List.drop_take, List.drop_drop, List.take_take]
  congr 1
  omega
theorem lin_empty {ls : List ByteArray} {t : ByteArray} (h0 : t.size = 0) (h : isLin t ls) : ls = [] := by
  cases ls with
  | nil => rfl
  | cons l r => have := h.1; omega
theorem refL_all (s : ByteArray) (hs : s.size ≤ 131072) : ∀ (ls : List ByteArray) (a : Nat) (L : List S33) (n : Nat), isLin (s.extract a s.size) ls → a ≤ s.size + 1 → L.length ≤ n → n ≤ a → Ev (fun k => wireglassref21_Log.l0 k s L (n : Int) (a : Int)) (logF L n ls)
  | [], a, L, n, h, ha, hL, hn => by
    have h0 : (s.extract a s.size).size = 0 := h
    rw [ByteArray.size_extract] at h0
    rw [logF]
    by_cases c : L.length > 60
    · rw [if_pos c]
      exact Ev.step (f := fun _ => some _) (fun k => by rw [wireglassref21_Log.l0, if_neg (by omega), if_pos (by omega)]) (Ev.now _)
    · rw [if_neg c]
      exact Ev.step (f := fun _ => some _) (fun k => by rw [wireglassref21_Log.l0, if_neg (by omega), if_neg (by omega)]) (Ev.now _)
  | l :: r, a, L, n, h, ha, hL, hn => by
    obtain ⟨h0, hl, hr⟩ := h
    obtain ⟨t, ht⟩ : ∃ t, s.extract a s.size = t := ⟨_, rfl⟩
    rw [ht] at h0 hl hr
    have hts : t.size = s.size - a := by rw [← ht, ByteArray.size_extract]; omega
    refine Ev.step (f := fun k => wireglassref21_Log.l1 k s L (n : Int) (a : Int) (a : Int)) (fun k => by rw [wireglassref21_Log.l0, if_pos (by omega)]) ?_
    -- the row, and what follows
    obtain ⟨K, hK1, hK2, hno, hyes, hrow, hnext⟩ : ∃ K, a ≤ K ∧ K ≤ s.size ∧ (∀ j, a ≤ j → j < K → bt s (j : Int) ≠ 10) ∧ (K < s.size → bt s (K : Int) = 10) ∧ s.extract a K = trimL l ∧ isLin (s.extract (K + 1) s.size) r := by
      rcases first_or t 10 with hf | ⟨k, hf⟩
      · have hn10 := first_no hf
        have e1 : lineHd t = t := by unfold lineHd lineAt; rw [hf, if_neg (by omega)]
        have e2 : lineTl t = ⟨#[]⟩ := by unfold lineTl lineAt; rw [hf, if_neg (by omega)]
        rw [e1] at hl
        rw [e2] at hr
        refine ⟨s.size, by omega, Nat.le_refl _, fun j h1 h2 => ?_, fun h => by omega, ?_, ?_⟩
        · have h3 := hn10 (j - a) (by omega)
          rw [← ht, bt_ext s a s.size (j - a) (by omega) (Nat.le_refl _), show a + (j - a) = j by omega] at h3
          exact h3
        · rw [ht, hl]
          unfold trimL
          rw [if_neg (fun h => hn10 (t.size - 1) (by omega) h.2)]
        · have hr0 := lin_empty rfl hr
          subst hr0
          show (s.extract (s.size + 1) s.size).size = 0
          rw [ByteArray.size_extract]
          omega
      · obtain ⟨f1, f2, f3⟩ := first_at hf
        have e1 : lineHd t = t.extract 0 (k + 1) := by unfold lineHd lineAt; rw [hf, if_pos (by omega), Int.toNat_natCast]
        have e2 : lineTl t = t.extract (k + 1) t.size := by unfold lineTl lineAt; rw [hf, if_pos (by omega), Int.toNat_natCast]
        rw [e1] at hl
        rw [e2] at hr
        have g2 : bt s ((a + k : Nat) : Int) = 10 := by rw [← bt_ext s a s.size k (by omega) (Nat.le_refl _), ht]; exact f2
        refine ⟨a + k, by omega, by omega, fun j h1 h2 => ?_, fun _ => g2, ?_, ?_⟩
        · have h3 := f3 (j - a) (by omega)
          rw [← ht, bt_ext s a s.size (j - a) (by omega) (Nat.le_refl _), show a + (j - a) = j by omega] at h3
          exact h3
        · have hls : l.size = k + 1 := by rw [hl, ByteArray.size_extract]; omega
          have hlb : bt l ((l.size - 1 : Nat) : Int) = 10 := by
            rw [hls, hl, bt_ext t 0 (k + 1) (k + 1 - 1) (by omega) (by omega), show 0 + (k + 1 - 1) = k by omega]
            exact f2
          unfold trimL
          rw [if_pos ⟨by omega, hlb⟩, hls, hl, ext_ext t 0 (k + 1) 0 (k + 1 - 1) (by omega) (by omega), ← ht, ext_ext s a s.size _ _ (by omega) (Nat.le_refl _)]
          congr 1
          omega
        · rw [hts, ← ht, ext_ext s a s.size _ _ (by omega) (Nat.le_refl _), show a + (s.size - a) = s.size by omega, ← Nat.add_assoc] at hr
          exact hr
    refine refL_scan s hs a K hK2 L n _ hno hyes ?_ (K - a) a (by omega) (Nat.le_refl _)
    refine refL_row s hs a K hK1 hK2 L n (by omega) (by omega) _ (trimL l) hrow (fun hst => ?_) (fun L2 hst => ?_)
    · rw [logF, hst]
    · rw [show wrap64 ((K : Int) + 1) = ((K + 1 : Nat) : Int) by rw [w64 (by omega) (by omega)]; omega]
      have := refL_all s hs r (K + 1) L2 (n + 1) hnext (by omega) (by have := logStep_len hst; omega) (by omega)
      rw [logF, hst]
      exact this
theorem refLog_ev {s : ByteArray} {u : List S33 × Int × Int} (h : LogS s u) : Ev (fun k => wireglassref21_Log.f k s) u := by
  unfold LogS at h
  unfold wireglassref21_Log.f
  by_cases c : s.size > 131072
  · rw [if_pos c] at h
    rw [h]
    exact Ev.if_pos (by omega) (Ev.now _)
  · rw [if_neg c] at h
    obtain ⟨ls, hls, rfl⟩ := h
    have e : s.extract 0 s.size = s := ba_ext (by rw [ext_list, List.drop_zero, Nat.sub_zero, List.take_of_length_le (by rw [← Lib.size_eq]; exact Nat.le_refl _)])
    exact Ev.if_neg (by omega) (refL_all s (by omega) ls 0 [] 0 (by rw [e]; exact hls) (by omega) (by simp) (by omega))
theorem logS_one {s : ByteArray} {u v : List S33 × Int × Int} (h : LogS s u) (k : LogS s v) : u = v := by
  unfold LogS at h k
  by_cases c : s.size > 131072
  · rw [if_pos c] at h k
    rw [h, k]
  · rw [if_neg c] at h k
    obtain ⟨ls, h1, rfl⟩ := h
    obtain ⟨ls2, h2, rfl⟩ := k
    rw [isLin_one _ _ _ h1 h2]
end Go.Proofs.YtbdakgkjomanlaaDoor.Pure
namespace Go.Proofs.YtbdakgkjomanlaaDoor.Pure
open Go.RowKit Go.Shelf Go.Proofs.YtbdakgkjomanlaaDoor.D Go.Proofs.YtbdakgkjomanlaaDoor.Hand Go.Proofs.YtbdakgkjomanlaaDoorW.PrintWords Go.Proofs.YtbdakgkjomanlaaDoorW.PrintLast Go.Proofs.YtbdakgkjomanlaaDoorW.PrintMore
set_option linter.unusedVariables false
def lowN (c : Int) : Int := bt DG (digV c)
def numsR (g : ByteArray) : Nat → Nat → List Int
  | 0, _ => []
  | d + 1, i => bt g (i : Int) :: numsR g d (i + 1)
theorem numsR_eq (g : ByteArray) : ∀ (d i : Nat), i + d = g.size → numsR g d i = (g.data.toList.drop i).map fun b => (b.toNat : Int)
  | 0, i, h => by
    rw [List.drop_of_length_le (by rw [← Lib.size_eq]; omega)]
    rfl
  | d + 1, i, h => by
    obtain ⟨c, h1, h2⟩ := bt_get g (j := i) (by omega)
    obtain ⟨hl, hc⟩ := List.getElem?_eq_some_iff.1 h1
    rw [numsR, List.drop_eq_getElem_cons hl, List.map_cons, hc, h2, numsR_eq g d (i + 1) (by omega)]
theorem hexN_app (a b : List Int) : hexN (a ++ b) = hexN a ++ hexN b := by simp [hexN]
theorem unhL_low (g : ByteArray) : ∀ (d i : Nat) (acc : List Int), (unhexL g d i acc).2 = 0 → hexN (unhexL g d i acc).1 = hexN acc ++ (numsR g (2 * d) i).map lowN ∧ ∀ x ∈ numsR g (2 * d) i, 0 ≤ digV x
  | 0, i, acc, h => ⟨by simp [unhexL, numsR], fun x hx => by simp [numsR] at hx⟩
  | d + 1, i, acc, h => by
    rw [unhexL] at h ⊢
    by_cases c0 : digV (bt g (i : Int)) < 0
    · rw [if_pos c0] at h
      simp at h
    rw [if_neg c0] at h ⊢
    by_cases c1 : digV (bt g ((i + 1 : Nat) : Int)) < 0
    · rw [if_pos c1] at h
      simp at h
    rw [if_neg c1] at h ⊢
    have ih := unhL_low g d (i + 2) _ h
    have b0 := digV_bd (bt g (i : Int))
    have b1 := digV_bd (bt g ((i + 1 : Nat) : Int))
    have e2 : numsR g (2 * (d + 1)) i = bt g (i : Int) :: bt g ((i + 1 : Nat) : Int) :: numsR g (2 * d) (i + 2) := by
      rw [show 2 * (d + 1) = 2 * d + 1 + 1 by omega, numsR, numsR]
    refine ⟨?_, ?_⟩
    · rw [ih.1, hexN_app, e2, List.map_cons, List.map_cons, List.append_assoc]
      congr 1
      show [bt DG ((16 * digV (bt g (i : Int)) + digV (bt g ((i + 1 : Nat) : Int))) / 16), bt DG ((16 * digV (bt g (i : Int)) + digV (bt g ((i + 1 : Nat) : Int))) % 16)] ++ _ = _
      rw [show (16 * digV (bt g (i : Int)) + digV (bt g ((i + 1 : Nat) : Int))) / 16 = digV (bt g (i : Int)) by omega, show (16 * digV (bt g (i : Int)) + digV (bt g ((i + 1 : Nat) : Int))) % 16 = digV (bt g ((i + 1 : Nat) : Int)) by omega]
      rfl
    · rw [e2]
      intro x hx
      rcases List.mem_cons.1 hx with rfl | hx
      · omega
      rcases List.mem_cons.1 hx with rfl | hx
      · omega
      · exact ih.2 x hx
theorem low_byte (c : UInt8) (h : 0 ≤ digV (c.toNat : Int)) : UInt8.ofNat (lowN (c.toNat : Int)).toNat = Lib.lowerB c ∧ c.toNat < 128 := by
  have key : ∀ m : Fin 256, 0 ≤ digV ((m.val : Nat) : Int) → UInt8.ofNat (lowN ((m.val : Nat) : Int)).toNat = Lib.lowerB (UInt8.ofNat m.val) ∧ m.val < 128 := by decide +kernel
  have hc : c.toNat < 256 := UInt8.toNat_lt c
  have := key ⟨c.toNat, hc⟩ h
  rw [UInt8.ofNat_toNat] at this
  exact this
/-- Digits that are read are, written anew, the digits in small letters. -/
theorem low_eq (g : ByteArray) (h : (unhexS g).2 = 0) : strOfNums (hexN (unhexS g).1) = ⟨(Lib.toLowerD g.data.toList).toArray⟩ := by
  unfold unhexS at h ⊢
  by_cases c : g.size % 2 = 0
  · rw [if_pos c] at h ⊢
    obtain ⟨h1, h2⟩ := unhL_low g (g.size / 2) 0 [] h
    rw [show 2 * (g.size / 2) = g.size by omega, numsR_eq g g.size 0 (by omega), List.drop_zero] at h1 h2
    have hd : ∀ b ∈ g.data.toList, 0 ≤ digV (b.toNat : Int) := fun b hb => h2 _ (List.mem_map.2 ⟨b, hb, rfl⟩)
    rw [Go.Lib.toLowerD_ascii _ (fun b hb => (low_byte b (hd b hb)).2), h1]
    refine ba_ext ?_
    show (strOfNums _).data.toList = _
    rw [strOfNums_data]
    show List.map _ ([] ++ List.map lowN (List.map _ g.data.toList)) = List.map Lib.lowerB g.data.toList
    rw [List.nil_append, List.map_map, List.map_map]
    exact List.map_congr_left fun b hb => (low_byte b (hd b hb)).1
  · rw [if_neg c] at h
    simp at h
end Go.Proofs.YtbdakgkjomanlaaDoor.Pure
