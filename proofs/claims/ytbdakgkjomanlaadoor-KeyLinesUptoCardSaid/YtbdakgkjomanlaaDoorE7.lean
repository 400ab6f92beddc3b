/- The lines of a text, as the library's iterator gives them. Conditions: none. -/
import Derived.Test.YtbdakgkjomanlaaDoorE3
import Derived.Test.YtbdakgkjomanlaaDoorShelf
import Derived.Test.YtbdakgkjomanlaaDoorHRange
namespace Go.Proofs.YtbdakgkjomanlaaDoor.Pure
open Go.RowKit Go.Shelf Go.Proofs.YtbdakgkjomanlaaDoor.D Go.Proofs.YtbdakgkjomanlaaDoor.Hand Go.Proofs.YtbdakgkjomanlaaDoorW.PrintWords Go.Proofs.YtbdakgkjomanlaaDoorW.PrintLast Go.Proofs.YtbdakgkjomanlaaDoorW.PrintMore
attribute [local go_sem] Oper.semAt_some
set_option linter.unusedVariables false
/-- The first line of a text, with its end, and what follows. -/
def lineAt (s : ByteArray) : Int := Lib.indexByte s.data.toList 10
def lineHd (s : ByteArray) : ByteArray := if 0 ≤ lineAt s then s.extract 0 ((lineAt s).toNat + 1) else s
def lineTl (s : ByteArray) : ByteArray := if 0 ≤ lineAt s then s.extract ((lineAt s).toNat + 1) s.size else ⟨#[]⟩
/-- These are the lines of a text. -/
def isLin : ByteArray → List ByteArray → Prop
  | s, [] => s.size = 0
  | s, l :: r => 0 < s.size ∧ l = lineHd s ∧ isLin (lineTl s) r
theorem lineAt_bd (s : ByteArray) : -1 ≤ lineAt s ∧ (0 < s.size → lineAt s < s.size) ∧ (0 ≤ lineAt s → lineAt s < s.size) := by
  have h1 := Lib.indexByte_ge s.data.toList 10
  have h2 : 0 ≤ lineAt s → lineAt s < s.size := fun h => by
    obtain ⟨k, hk⟩ := Int.eq_ofNat_of_zero_le h
    have h3 := (Lib.indexByte_some (l := s.data.toList) (c := 10) (o := k) hk).1
    have h4 := (List.getElem?_eq_some_iff.1 h3).1
    rw [hk, Lib.size_eq]
    omega
  exact ⟨h1, fun h => by by_cases c : 0 ≤ lineAt s; exact h2 c; omega, h2⟩
theorem lineTl_size (s : ByteArray) (h : 0 < s.size) : (lineTl s).size < s.size := by
  unfold lineTl
  have hb := lineAt_bd s
  split
  · next c => rw [ByteArray.size_extract]; omega
  · exact h
theorem isLin_ex : ∀ (n : Nat) (s : ByteArray), s.size ≤ n → ∃ r, isLin s r
  | 0, s, h => ⟨[], by unfold isLin; omega⟩
  | n + 1, s, h => by
    by_cases c : 0 < s.size
    · obtain ⟨r, hr⟩ := isLin_ex n (lineTl s) (by have := lineTl_size s c; omega)
      exact ⟨lineHd s :: r, c, rfl, hr⟩
    · exact ⟨[], by unfold isLin; omega⟩
theorem isLin_one : ∀ (a b : List ByteArray) (s : ByteArray), isLin s a → isLin s b → a = b
  | [], [], _, _, _ => rfl
  | [], y :: b, s, ha, hb => by have h1 : s.size = 0 := ha; have h2 : 0 < s.size := hb.1; omega
  | x :: a, [], s, ha, hb => by have h1 : s.size = 0 := hb; have h2 : 0 < s.size := ha.1; omega
  | x :: a, y :: b, s, ha, hb => by
    rw [ha.2.1, hb.2.1, isLin_one a b _ ha.2.2 hb.2.2]
theorem isLin_len : ∀ (a : List ByteArray) (s : ByteArray), isLin s a → a.length ≤ s.size
  | [], s, h => Nat.zero_le _
  | x :: a, s, h => by
    have := isLin_len a _ h.2.2
    have := lineTl_size s h.1
    rw [List.length_cons]
    omega
set_option maxHeartbeats 1000000 in
theorem lines.in_ (F : Fence) (n : Nat) (hF : F.fn 16) (hro : F.round = none) (s : ByteArray) (w : World) :
    CallsIn F n Tryd.prog 16 #[.string s] w fun e w' => e = .returned (.func (.func 30) #[] #[.pointer (some ⟨w.heap.size, 0, none⟩)]) ∧ w' = w.alloc (.cells #[.string s] 9) := by
  refine callsIn_of_wp Tryd.func16 rfl hF ?_ hro
  simp only [Tryd.ntmps16, List.size_toArray, List.length_cons, List.length_nil, Nat.reduceAdd, Nat.reduceSub, Array.replicate_succ, Array.replicate_zero, List.push_toArray, List.append_toArray, List.nil_append, List.cons_append]
  gi_wp2
  go_ret
  exact ⟨rfl, rfl⟩
theorem ixb.in_ (n : Nat) (m : ByteArray) (i : Int) (hi : lineAt m = i) (W : World) :
    CallsIn Fence.wide n Tryd.prog 31 #[.string m, .int .u8 10] W fun e w' => e = .returned (.int .i64 i) ∧ w' = W := by
  subst hi
  exact callsIn_wide.2 (Tryd.strings_IndexByte m 10 W)
/-- The iterator's own steps: it writes its variable, and draws. -/
def LinSt (b : Nat) (t : TypeId) (A B : World) : Prop := (∃ u v, Boxed A b t u ∧ B = A.setCell ⟨b, 0, none⟩ v) ∨ B = A.drew
/-- What a round must keep: the iterator's variable. -/
def LinKp (b : Nat) (t : TypeId) (A B : World) : Prop := ∀ u, Boxed A b t u → Boxed B b t u
def linM (b : Nat) (w : World) : Nat := match w.cell? ⟨b, 0, none⟩ with | some (.string m) => m.size | _ => 0
theorem linM_eq {b : Nat} {t : TypeId} {w : World} {m : ByteArray} (h : Boxed w b t (.string m)) : linM b w = m.size := by
  unfold linM; rw [h.cell]
set_option maxRecDepth 100000 in
set_option maxHeartbeats 2000000 in
theorem lines_1.in_ (n : Nat) (hn : 1 ≤ n) (l b : Nat) (x : ByteArray) (hx : x.size ≤ 1000000) (J Jx : List ByteArray → World → Prop)
    (hJs : ∀ s A B, J s A → LinSt b 9 A B → J s B)
    (hY : ∀ pre y W, J pre W → pre.length < 1000000 → y.size ≤ x.size → YieldAt Fence.wide (n - 1) Tryd.prog l #[.string y] W fun e W' =>
      (e = .returned (.bool true) ∧ J (pre ++ [y]) W' ∧ LinKp b 9 W W') ∨ (e = .returned (.bool false) ∧ Jx (pre ++ [y]) W'))
    (W : World) (hb : Boxed W b 9 (.string x)) (h0 : J [] W) :
    CallsIn Fence.wide n Tryd.prog 30 #[.func (.yield l) #[] #[], .pointer (some ⟨b, 0, none⟩)] W fun e W' => (∃ v, e = .returned v) ∧
      ((∃ ys, isLin x ys ∧ J ys W') ∨ (∃ pre, (∃ r, isLin x (pre ++ r)) ∧ Jx pre W')) := by
  refine callsIn_of_wp Tryd.func30 rfl trivial ?_ rfl
  simp only [Tryd.ntmps30, List.size_toArray, List.length_cons, List.length_nil, Nat.reduceAdd, Nat.reduceSub, Array.replicate_succ, Array.replicate_zero, List.push_toArray, List.append_toArray, List.nil_append, List.cons_append]
  gi_wp2
  gi_loopw [3] (fun (_ : Value) (wr : World) => ∃ (pre : List ByteArray) (m : ByteArray), Boxed wr b 9 (.string m) ∧ J pre wr ∧ pre.length + m.size ≤ x.size ∧ ∀ r, isLin m r → isLin x (pre ++ r)) (fun (_ : Value) (wr : World) => linM b wr)
  case atStart => exact ⟨[], x, hb, h0, by simp, fun r h => h⟩
  case round =>
    obtain ⟨pre, m, hbm, hJ, hsz, hS⟩ := hrel
    have hc := hbm.cell
    have hf := hbm.frozen
    have HS := Lib.hid hS
    clear hS
    have HM := Lib.hid (linM_eq hbm)
    by_cases hm : 0 < m.size
    · have g1 : decide (0 < (m.size : Int)) = true := decide_eq_true (by omega)
      have g2 : decide (0 < m.size) = true := decide_eq_true hm
      obtain ⟨i, hi⟩ : ∃ i, lineAt m = i := ⟨_, rfl⟩
      have HI := Lib.hid hi
      by_cases ci : 0 ≤ i
      · obtain ⟨k, rfl⟩ := Int.eq_ofNat_of_zero_le ci
        have hk : k < m.size := by have := (lineAt_bd m).2.2 (by omega); omega
        have g3 : decide (0 ≤ (k : Int)) = true := decide_eq_true (by omega)
        have mixed : Tryd.prog.follows Departure.mixedOrders = true := by kernel_rfl
        gi_wp2_with (refine ⟨trivial, ?_⟩; gi_at_call 31; refine (ixb.in_ (n - 1) m _ HI.out _).mono ?_; rintro e W1 ⟨rfl, rfl⟩)
        have hcd : W1.drew.cell? ⟨b, 0, none⟩ = some (.string m) := hc
        have hfd : W1.drew.frozen? ⟨b, 0, none⟩ = false := hf
        have i9 : wrap64 ((k : Int) + 1) = (k : Int) + 1 := w64 (by omega) (by omega)
        have i8 : IntKind.i64.wrap ((k : Int) + 1) = (k : Int) + 1 := (i64_w _).trans i9
        have g4 : (k : Int) + 1 ≤ (m.size : Int) := by omega
        have g5 : k + 1 ≤ m.size := by omega
        gi_region_o
        have hb2 : Boxed ((W1.setCell ⟨b, 0, none⟩ (.string (m.extract (k + 1) m.size))).drew) b 9 (.string (m.extract (k + 1) m.size)) := hbm.set (.string (m.extract (k + 1) m.size))
        have hJ2 : J pre ((W1.setCell ⟨b, 0, none⟩ (.string (m.extract (k + 1) m.size))).drew) := hJs _ _ _ (hJs _ _ _ hJ (.inl ⟨_, _, hbm, rfl⟩)) (.inr rfl)
        have HLT := Lib.hid (show (lineTl m).size < m.size from lineTl_size m hm)
        have HL1 := Lib.hid (show lineHd m = m.extract 0 (k + 1) from by unfold lineHd; rw [HI.out, if_pos ci]; rfl)
        have HL2 := Lib.hid (show lineTl m = (m.extract (k + 1) m.size) from by unfold lineTl; rw [HI.out, if_pos ci]; rfl)
        have HS4 := Lib.hid (show ∀ r, isLin (m.extract (k + 1) m.size) r → isLin x ((pre ++ [m.extract 0 (k + 1)]) ++ r) from fun r hr => by
          rw [List.append_assoc]
          exact HS.out _ ⟨hm, HL1.out.symm, by rw [HL2.out]; exact hr⟩)
        have HPL := Lib.hid (show pre.length < 1000000 ∧ (pre ++ [m.extract 0 (k + 1)]).length + ((m.extract (k + 1) m.size)).size ≤ x.size from by rw [List.length_append, List.length_singleton]; have := HLT.out; rw [HL2.out] at this; omega)
        obtain ⟨fn, tmps, assign, body, hy, hR⟩ := hY pre (m.extract 0 (k + 1)) _ hJ2 HPL.out.1 (by rw [ByteArray.size_extract]; omega)
        try dsimp only at hy
        clear hJ2 hJ HS
        gi_wp2
        refine hR.mono ?_
        rintro e W3 (⟨rfl, hJ3, hk3⟩ | ⟨rfl, hJx3⟩)
        · have hb3 := hk3 _ hb2
          gi_wp2
          go_roundw
          case rel => exact ⟨_, _, hb3, hJ3, HPL.out.2, HS4.out⟩
          case measure =>
            rw [linM_eq hb3, HM.out]
            have := HLT.out
            rw [HL2.out] at this
            exact this
        · gi_wp2
          refine bodyPost_ret (results_none rfl _ _ _) rfl ?_
          obtain ⟨r, hr⟩ := isLin_ex _ (m.extract (k + 1) m.size) (Nat.le_refl _)
          exact ⟨⟨_, rfl⟩, .inr ⟨_, ⟨r, HS4.out r hr⟩, hJx3⟩⟩
      · have g3 : decide (0 ≤ i) = false := decide_eq_false ci
        gi_wp2_with (refine ⟨trivial, ?_⟩; gi_at_call 31; refine (ixb.in_ (n - 1) m _ HI.out _).mono ?_; rintro e W1 ⟨rfl, rfl⟩)
        have hb2 : Boxed (W1.setCell ⟨b, 0, none⟩ (.string ⟨#[]⟩)) b 9 (.string (⟨#[]⟩ : ByteArray)) := hbm.set (.string (⟨#[]⟩ : ByteArray))
        have hJ2 : J pre (W1.setCell ⟨b, 0, none⟩ (.string ⟨#[]⟩)) := hJs _ _ _ hJ (.inl ⟨_, _, hbm, rfl⟩)
        have HLT := Lib.hid (show (lineTl m).size < m.size from lineTl_size m hm)
        have HL1 := Lib.hid (show lineHd m = m from by unfold lineHd; rw [HI.out, if_neg (by omega)])
        have HL2 := Lib.hid (show lineTl m = (⟨#[]⟩ : ByteArray) from by unfold lineTl; rw [HI.out, if_neg (by omega)])
        have HS4 := Lib.hid (show ∀ r, isLin (⟨#[]⟩ : ByteArray) r → isLin x ((pre ++ [m]) ++ r) from fun r hr => by
          rw [List.append_assoc]
          exact HS.out _ ⟨hm, HL1.out.symm, by rw [HL2.out]; exact hr⟩)
        have HPL := Lib.hid (show pre.length < 1000000 ∧ (pre ++ [m]).length + ((⟨#[]⟩ : ByteArray)).size ≤ x.size from by rw [List.length_append, List.length_singleton]; have := HLT.out; rw [HL2.out] at this; omega)
        obtain ⟨fn, tmps, assign, body, hy, hR⟩ := hY pre (m) _ hJ2 HPL.out.1 (by omega)
        try dsimp only at hy
        clear hJ2 hJ HS
        gi_wp2
        rw [hy]
        gi_wp2
        refine hR.mono ?_
        rintro e W3 (⟨rfl, hJ3, hk3⟩ | ⟨rfl, hJx3⟩)
        · have hb3 := hk3 _ hb2
          gi_wp2
          go_roundw
          case rel => exact ⟨_, _, hb3, hJ3, HPL.out.2, HS4.out⟩
          case measure =>
            rw [linM_eq hb3, HM.out]
            have := HLT.out
            rw [HL2.out] at this
            exact this
        · gi_wp2
          refine bodyPost_ret (results_none rfl _ _ _) rfl ?_
          obtain ⟨r, hr⟩ := isLin_ex _ (⟨#[]⟩ : ByteArray) (Nat.le_refl _)
          exact ⟨⟨_, rfl⟩, .inr ⟨_, ⟨r, HS4.out r hr⟩, hJx3⟩⟩
    · have g1 : decide (0 < (m.size : Int)) = false := decide_eq_false (by omega)
      have g2 : decide (0 < m.size) = false := decide_eq_false hm
      gi_wp2
      go_end0
      exact ⟨⟨_, rfl⟩, .inl ⟨pre, by have h5 := HS.out [] (show m.size = 0 by omega); rw [List.append_nil] at h5; exact h5, hJ⟩⟩
end Go.Proofs.YtbdakgkjomanlaaDoor.Pure
