/- The program's dump is the list: the walk with its builder. Conditions: bytes that can be read. -/
import Derived.Test.YtlilcbpcjmcfbaaDoorE5
namespace Go.Proofs.YtlilcbpcjmcfbaaDoor.Pure
open Go.RowKit Go.Shelf Go.Proofs.YtlilcbpcjmcfbaaDoor.D Go.Proofs.YtlilcbpcjmcfbaaDoor.Hand Go.Proofs.YtlilcbpcjmcfbaaDoorW.PrintWords Go.Proofs.YtlilcbpcjmcfbaaDoorW.PrintLast Go.Proofs.YtlilcbpcjmcfbaaDoorW.PrintMore
attribute [local go_sem] Oper.semAt_some max2_int min2_int max_two min_two max_three min_three max_four min_four
set_option linter.unusedVariables false
/-- The builder of a dump, and that nothing below turned. -/
structure DW (w : World) (B : Nat) (xs : List Int) (W : World) : Prop where
  one_ : ∃ v, WB W B B v (xs.map (Value.int .u8)) ∧ (xs = [] → v = .slice none 0 0)
  below : Below B w W
  eqB : w.heap.size = B
  bytes : isB xs
theorem DW.start (w : World) : DW w w.heap.size [] (w.alloc (.cells #[.pointer none, .slice none 0 0] 39)) :=
  ⟨⟨.slice none 0 0, WB.start w _ (Nat.le_refl _), fun _ => rfl⟩, (Below.refl _ w).alloc (Nat.le_refl _) _, rfl, isB_nil⟩
theorem DW.move {w W W' : World} {B : Nat} {xs : List Int} (h : DW w B xs W) (hb : Below W.heap.size W W') : DW w B xs W' := by
  obtain ⟨⟨v, h1, h2⟩, hbl, hB, hx⟩ := h
  exact ⟨⟨v, h1.kept hb.block, h2⟩, hbl.trans (hb.mono (hB ▸ hbl.size)), hB, hx⟩
theorem DW.row {w W : World} {B : Nat} {xs : List Int} (h : DW w B xs W) {A : Option Addr} {n : Nat} {b : List Int} (hC : Kd.C (Kd.int .u8) w A n b) : Kd.C (Kd.int .u8) W A n b := Kd.C_below hC (by rw [h.eqB]; exact h.below)
theorem DW.put {w W : World} {B : Nat} {xs : List Int} (h : DW w B xs W) (ys : List Int) (hy : isB ys) (h0 : ys ≠ []) (hl : xs.length + ys.length ≤ 1000000) :
    Calls Tryd.prog 19 #[.pointer (some ⟨B, 0, none⟩), .string (strOfNums ys)] W fun e W' => (∃ n, e = .returned (.tuple #[.int .i64 n, .nilIface])) ∧ DW w B (xs ++ ys) W' := by
  obtain ⟨⟨v, h1, h2⟩, hbl, hB, hx⟩ := h
  refine (wstrN.calls B B v xs ys W h1 hy hl (hB ▸ hbl.size)).mono ?_
  rintro e W' ⟨n, rfl, v', g1, g2, g3⟩
  exact ⟨⟨n, rfl⟩, ⟨v', g1, fun e => absurd (List.append_eq_nil_iff.1 e).2 h0⟩, hbl.trans g3, hB, isB_app hx hy⟩
theorem DW.told {w W : World} {B : Nat} {xs : List Int} (h : DW w B xs W) (s : ByteArray) (hs : strOfNums xs = s) :
    Calls Tryd.prog 21 #[.pointer (some ⟨B, 0, none⟩)] W fun e W' => e = .returned (.string s) ∧ Below B w W' := by
  obtain ⟨⟨v, h1, h2⟩, hbl, hB, hx⟩ := h
  subst hs
  by_cases h0 : xs = []
  · have hv := h2 h0
    subst hv
    subst h0
    refine (bstr.emp B B W h1).mono ?_
    rintro e W' ⟨rfl, g⟩
    exact ⟨rfl, hbl.trans g⟩
  · refine (bstrN.calls B B v xs W h1 hx h0).mono ?_
    rintro e W' ⟨rfl, g1, g2, g3⟩
    exact ⟨rfl, hbl.trans g3⟩
/-- A line's call, in the midst of a dump. -/
theorem DW.line {w W : World} {B : Nat} {xs : List Int} (h : DW w B xs W) (a : Int) (ha0 : 0 ≤ a) (ha1 : a ≤ 100000) (A : Option Addr) (n c : Nat) (b : List Int) (hn : b.length = n) (hC : Kd.C (Kd.int .u8) W A n b) (hc : n ≤ c) (hb : isB b) (h1 : 1 ≤ n) (h16 : n ≤ 16) (s : ByteArray) (hs : strOfNums (lineN a b) = s) :
    Calls Tryd.prog 20 #[.int .i64 a, .slice A n c] W fun e W' => e = .returned (.string s) ∧ DW w B xs W' := by
  subst hn
  subst hs
  refine (bline.calls a ha0 ha1 A c b W hC hc hb h1 h16).mono ?_
  rintro e W' ⟨rfl, g⟩
  exact ⟨rfl, h.move g⟩
theorem DW.put' {w W : World} {B : Nat} {xs : List Int} (h : DW w B xs W) (ys : List Int) (hy : isB ys) (h0 : ys ≠ []) (hl : xs.length + ys.length ≤ 1000000) (s : ByteArray) (hs : strOfNums ys = s) :
    Calls Tryd.prog 19 #[.pointer (some ⟨B, 0, none⟩), .string s] W fun e W' => (∃ n, e = .returned (.tuple #[.int .i64 n, .nilIface])) ∧ DW w B (xs ++ ys) W' := by
  subst hs
  exact h.put ys hy h0 hl
set_option maxHeartbeats 4000000 in
set_option maxRecDepth 100000 in
theorem bdump.big (A : Option Addr) (c : Nat) (n : Nat) (w : World) (hn : ¬ n ≤ 1600) :
    Calls Tryd.prog 6 #[.slice A n c] w fun e w' => e = .returned (.tuple #[.string ⟨#[]⟩, .int .i64 3]) ∧ Below w.heap.size w w' := by
  have c2b0 : decide (1600 < (n : Int)) = true := decide_eq_true (by omega)
  have c2b1 : decide (1600 < n) = true := decide_eq_true (by omega)
  have HB := Aside0.mk (Below.refl w.heap.size w)
  clear hn
  go_enter Tryd.func6, Tryd.ntmps6
  go_wp2
  go_ret2
  exact ⟨rfl, HB.out⟩
set_option maxHeartbeats 4000000 in
set_option maxRecDepth 100000 in
theorem bdump.calls (A : Option Addr) (c : Nat) (b : List Int) (w : World) (hC : Kd.C (Kd.int .u8) w A b.length b) (hc : b.length ≤ c) (hb : isB b) (hl : b.length ≤ 1600) :
    Calls Tryd.prog 6 #[.slice A b.length c] w fun e w' => e = .returned (.tuple #[.string (strOfNums (dumpN b)), .int .i64 0]) ∧ Below w.heap.size w w' := by
  obtain ⟨n, hn⟩ : ∃ n, b.length = n := ⟨_, rfl⟩
  rw [hn] at hC hc hl ⊢
  have c2b0 : decide (1600 < (n : Int)) = false := decide_eq_false (by omega)
  have c2b1 : decide (1600 < n) = false := decide_eq_false (by omega)
  have HC := Aside0.mk hC
  have HN := Aside0.mk hn
  have HB := Aside0.mk hb
  have HL := Aside0.mk hl
  have HCC := Aside0.mk hc
  have HL0 := Aside0.mk (DW.start w)
  clear hC hn hb hl hc
  obtain ⟨i0, hi, hz0⟩ : ∃ i, Tryd.prog.info? 39 = some i ∧ i.zero = some (.agg #[.pointer none, .slice none 0 0]) := by
    refine ⟨_, rfl, ?_⟩
    kernel_rfl
  go_enter Tryd.func6, Tryd.ntmps6
  go_wp2
  obtain ⟨B, hB⟩ : ∃ B, w.heap.size = B := ⟨_, rfl⟩
  rw [hB] at HL0 ⊢
  have HBB := Aside0.mk hB
  clear hB
  go_loopg [5] ((n + 15) / 16) (fun kq v5 W' => ∃ (j : Nat) (x : Int), v5 = .int .i64 x ∧ x = 16 * (j : Int) ∧ j + kq = (n + 15) / 16 ∧ Aside0 (DW w B (rowsN b j) W'))
  case atStart => exact ⟨0, 0, rfl, rfl, by omega, HL0⟩
  case round =>
    clear HL0
    obtain ⟨j, x, rfl, hx, hjk, HD⟩ := hrel
    by_cases hj : j < (n + 15) / 16
    · obtain ⟨q, rfl⟩ : ∃ q, gk = q + 1 := ⟨gk - 1, by omega⟩
      have hn16 := HL.out
      have f0 : decide (x < (n : Int)) = true := decide_eq_true (by omega)
      obtain ⟨y, hy⟩ : ∃ y : Int, x + 16 = y := ⟨_, rfl⟩
      have i9 : wrap64 (x + 16) = y := by rw [w64 (by omega) (by omega), hy]
      have i8 : IntKind.i64.wrap (x + 16) = y := (i64_w _).trans i9
      obtain ⟨e, he⟩ : ∃ e : Nat, e = min (16 * j + 16) n := ⟨_, rfl⟩
      obtain ⟨z, hz⟩ : ∃ z : Int, (e : Int) = z := ⟨_, rfl⟩
      have hm : (if (n : Int) < y then (n : Int) else y) = z := by split <;> omega
      obtain ⟨A', hcut, hCr⟩ := cut_row A c n b HN.out HCC.out (16 * j) e (by omega) (by omega)
      obtain ⟨m, hmm⟩ : ∃ m, e - 16 * j = m := ⟨_, rfl⟩
      obtain ⟨cc, hcc⟩ : ∃ cc, c - 16 * j = cc := ⟨_, rfl⟩
      rw [hmm, hcc, hz, show ((16 * j : Nat) : Int) = x by omega] at hcut
      rw [hmm] at hCr
      have hrow : (b.take e).drop (16 * j) = (b.drop (16 * j)).take 16 := by
        rw [List.drop_take]
        have hn2 := HN.out
        by_cases c : 16 * j + 16 ≤ n
        · rw [show e - 16 * j = 16 by omega]
        · rw [List.take_of_length_le (by rw [List.length_drop]; omega), List.take_of_length_le (by rw [List.length_drop]; omega)]
      rw [hrow] at hCr
      obtain ⟨s, hs⟩ : ∃ s, strOfNums (lineN x ((b.drop (16 * j)).take 16)) = s := ⟨_, rfl⟩
      have HX : Aside0 (0 ≤ x ∧ x ≤ 100000 ∧ 1 ≤ m ∧ m ≤ 16 ∧ m ≤ cc ∧ x = 16 * (j : Int) ∧ x + 16 = y ∧ j + (q + 1) = (n + 15) / 16 ∧ n ≤ 1600 ∧ j < (n + 15) / 16) := ⟨by have := HCC.out; omega⟩
      have HM : Aside0 (((b.drop (16 * j)).take 16).length = m) := ⟨by rw [List.length_take, List.length_drop, HN.out]; omega⟩
      have HCR := Aside0.mk hCr
      have HS := Aside0.mk hs
      have HK : Aside0 (isB ((b.drop (16 * j)).take 16) ∧ isB (lineN x ((b.drop (16 * j)).take 16)) ∧ lineN x ((b.drop (16 * j)).take 16) ≠ [] ∧ (rowsN b j).length + (lineN x ((b.drop (16 * j)).take 16)).length ≤ 1000000) := ⟨isB_cut HB.out _ _, lineN_isB _ _, fun e => by have h5 := lineN_len x ((b.drop (16 * j)).take 16); rw [e] at h5; simp at h5; omega, by have := rowsN_len b j; rw [lineN_len, HM.out]; omega⟩
      clear hx hjk hj hn16 hy he hz hmm hcc hCr hrow hs
      go_wp2_with (first
        | (go_at_call 20; (with_reducible refine (DW.line HD.out x HX.out.1 HX.out.2.1 A' m cc _ HM.out (HCR.out _ (DW.row HD.out HC.out)) HX.out.2.2.2.2.1 HK.out.1 HX.out.2.2.1 HX.out.2.2.2.1 s HS.out).mono ?_); rintro e W1 ⟨rfl, h1⟩; have N1 := Aside0.mk h1; clear h1 HD; have HD := N1; clear N1)
        | (go_at_call 19; (with_reducible refine (DW.put' HD.out _ HK.out.2.1 HK.out.2.2.1 HK.out.2.2.2 s HS.out).mono ?_); rintro e W1 ⟨⟨n1, rfl⟩, h1⟩; have N1 := Aside0.mk h1; clear h1 HD; have HD := N1; clear N1))
      go_roundg q
      case measure => omega
      case rel => exact ⟨j + 1, _, rfl, (by have := HX.out; omega), (by have := HX.out; omega), ⟨by have h9 := HD.out; rw [rowsN, ← HX.out.2.2.2.2.2.1]; exact h9⟩⟩
    · have f0 : decide (x < (n : Int)) = false := decide_eq_false (by omega)
      have HJ : Aside0 (strOfNums (rowsN b j) = strOfNums (dumpN b)) := ⟨by unfold dumpN; rw [HN.out, show j = (n + 15) / 16 by omega]⟩
      obtain ⟨s, hs⟩ : ∃ s, strOfNums (dumpN b) = s := ⟨_, rfl⟩
      have HS : Aside0 (strOfNums (rowsN b j) = s) := ⟨HJ.out.trans hs⟩
      have HS2 := Aside0.mk hs
      clear hs hx hjk hj
      go_wp2_with (go_at_call 21; (with_reducible refine (DW.told HD.out s HS.out).mono ?_); rintro e W1 ⟨rfl, h1⟩; have HE := Aside0.mk h1; clear h1)
      go_ret2
      exact ⟨by rw [HS2.out]; rfl, by rw [HBB.out]; exact HE.out⟩
end Go.Proofs.YtlilcbpcjmcfbaaDoor.Pure
