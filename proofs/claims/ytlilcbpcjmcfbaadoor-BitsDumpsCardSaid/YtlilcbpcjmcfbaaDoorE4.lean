/- The program's line of a dump is the list: the walk with its two builders. Conditions: 1 to 16 bytes, a place of at most 100000. -/
import Derived.Test.YtlilcbpcjmcfbaaDoorE3
import Derived.Test.YtlilcbpcjmcfbaaDoorDx2
namespace Go.Proofs.YtlilcbpcjmcfbaaDoor.Pure
open Go.RowKit Go.Shelf Go.Proofs.YtlilcbpcjmcfbaaDoor.D Go.Proofs.YtlilcbpcjmcfbaaDoor.Hand Go.Proofs.YtlilcbpcjmcfbaaDoorW.PrintWords Go.Proofs.YtlilcbpcjmcfbaaDoorW.PrintLast Go.Proofs.YtlilcbpcjmcfbaaDoorW.PrintMore
attribute [local go_sem] Oper.semAt_some max2_int min2_int max_two min_two max_three min_three max_four min_four
set_option linter.unusedVariables false
theorem WB.kept {W W' : World} {B b : Nat} {v : Value} {bs : List Value} (h : WB W B b v bs) (hk : ∀ k, k < W.heap.size → W'.heap[k]? = W.heap[k]?) : WB W' B b v bs := by
  refine ⟨h.le, by rw [hk b h.lt]; exact h.blk, ?_, h.ne⟩
  obtain ⟨h1, h2⟩ := h.own
  refine ⟨h1, ?_⟩
  rcases h2 with h2 | ⟨g, cap, cur, hu, hbg, hg, r⟩
  · exact .inl h2
  · exact .inr ⟨g, cap, cur, hu, hbg, by rw [hk g (h.ownlt (by rw [hu]; rfl))]; exact hg, r⟩
/-- The two builders of a line, and that nothing below turned. -/
structure LW (w : World) (B m : Nat) (xs ts : List Int) (W : World) : Prop where
  two_ : ∃ v u, WB W B B v (xs.map (Value.int .u8)) ∧ WB W B (B + 1) u (ts.map (Value.int .u8)) ∧ (∀ k, u.ownBlock = some k → v.ownBlock ≠ some k) ∧ u.ownBlock ≠ some B ∧ v.ownBlock ≠ some (B + 1)
  below : Below B w W
  eqB : w.heap.size = B
  len : xs.length ≤ m ∧ ts.length ≤ m
theorem LW.le {w W : World} {B m : Nat} {xs ts : List Int} (h : LW w B m xs ts W) : B ≤ W.heap.size := h.eqB ▸ h.below.size
theorem LW.start (w : World) : LW w w.heap.size 100 [] [] ((w.alloc (.cells #[.pointer none, .slice none 0 0] 39)).alloc (.cells #[.pointer none, .slice none 0 0] 39)) := by
  refine ⟨⟨.slice none 0 0, .slice none 0 0, (WB.start w _ (Nat.le_refl _)).kept (fun k hk => Below.heap_alloc _ _ k hk), ?_, fun k hk => by simp [Value.ownBlock] at hk, by simp [Value.ownBlock], by simp [Value.ownBlock]⟩, ((Below.refl _ w).alloc (Nat.le_refl _) _).alloc (by simp) _, rfl, by simp⟩
  have h := WB.start (w.alloc (.cells #[.pointer none, .slice none 0 0] 39)) w.heap.size (by simp)
  rw [World.size_alloc] at h
  exact h
theorem LW.move {w W W' : World} {B m : Nat} {xs ts : List Int} (h : LW w B m xs ts W) (hb : Below W.heap.size W W') : LW w B m xs ts W' := by
  obtain ⟨⟨v, u, h1, h2, h3, h4, h5⟩, hbl, hB, hm⟩ := h
  exact ⟨⟨v, u, h1.kept hb.block, h2.kept hb.block, h3, h4, h5⟩, hbl.trans (hb.mono (hB ▸ hbl.size)), hB, hm⟩
theorem LW.re {w W : World} {B m n : Nat} {xs ts : List Int} (h : LW w B m xs ts W) (h1 : xs.length ≤ n) (h2 : ts.length ≤ n) : LW w B n xs ts W := ⟨h.two_, h.below, h.eqB, h1, h2⟩
theorem LW.hex {w W : World} {B m : Nat} {xs ts : List Int} (h : LW w B m xs ts W) (ys : List Int) (hy : isB ys) (hl : m + ys.length ≤ 1000000) :
    Calls Tryd.prog 19 #[.pointer (some ⟨B, 0, none⟩), .string (strOfNums ys)] W fun e W' => (∃ n, e = .returned (.tuple #[.int .i64 n, .nilIface])) ∧ LW w B (m + ys.length) (xs ++ ys) ts W' := by
  obtain ⟨⟨v, u, h1, h2, h3, h4, h5⟩, hbl, hB, hm⟩ := h
  refine (wstrN.calls B B v xs ys W h1 hy (by omega) (hB ▸ hbl.size)).mono ?_
  rintro e W' ⟨n, rfl, v', g1, g2, g3⟩
  refine ⟨⟨n, rfl⟩, ⟨v', u, g1, h2.other g2 (by omega) h5 h4 h3, ?_, h4, ?_⟩, hbl.trans g3, hB, by rw [List.length_append]; omega⟩
  · intro k hk
    have hlt := h2.ownlt hk
    rcases g2.lies with e | ⟨q, e, hq⟩
    · rw [e]; exact h3 k hk
    · rw [e]; intro e2; injection e2 with e2; omega
  · have hlt := h2.lt
    rcases g2.lies with e | ⟨q, e, hq⟩
    · rw [e]; exact h5
    · rw [e]; intro e2; injection e2 with e2; omega
theorem LW.sp1 {w W : World} {B m : Nat} {xs ts : List Int} (h : LW w B m xs ts W) (hl : m ≤ 1000) :
    Calls Tryd.prog 19 #[.pointer (some ⟨B, 0, none⟩), .string ⟨#[32]⟩] W fun e W' => (∃ n, e = .returned (.tuple #[.int .i64 n, .nilIface])) ∧ LW w B (m + 1) (xs ++ [32]) ts W' :=
  h.hex [32] (isB_one (by omega) (by omega)) (by simp; omega)
theorem LW.sp2 {w W : World} {B m : Nat} {xs ts : List Int} (h : LW w B m xs ts W) (hl : m ≤ 1000) :
    Calls Tryd.prog 19 #[.pointer (some ⟨B, 0, none⟩), .string ⟨#[32, 32]⟩] W fun e W' => (∃ n, e = .returned (.tuple #[.int .i64 n, .nilIface])) ∧ LW w B (m + 2) (xs ++ [32, 32]) ts W' :=
  h.hex [32, 32] (isB_cons (by omega) (by omega) (isB_one (by omega) (by omega))) (by simp; omega)
theorem LW.text {w W : World} {B m : Nat} {xs ts : List Int} (h : LW w B m xs ts W) (c : Int) (hl : m ≤ 1000) :
    Calls Tryd.prog 34 #[.pointer (some ⟨B + 1, 0, none⟩), .int .u8 c] W fun e W' => e = .returned .nilIface ∧ LW w B (m + 1) xs (ts ++ [c]) W' := by
  obtain ⟨⟨v, u, h1, h2, h3, h4, h5⟩, hbl, hB, hm⟩ := h
  refine (wbyte.calls B (B + 1) u ts c W h2 (by omega) (hB ▸ hbl.size)).mono ?_
  rintro e W' ⟨rfl, u', g1, g2, g3⟩
  refine ⟨rfl, ⟨v, u', h1.other g2 (by omega) h4 h5 (fun k hk hu => h3 k hu hk), g1, ?_, ?_, h5⟩, hbl.trans g3, hB, by rw [List.length_append, List.length_singleton]; omega⟩
  · intro k hk hv
    have hlt := h1.ownlt hv
    rcases g2.lies with e | ⟨q, e, hq⟩
    · rw [e] at hk; exact h3 k hk hv
    · rw [e] at hk; injection hk with hk; omega
  · have hlt := h1.lt
    rcases g2.lies with e | ⟨q, e, hq⟩
    · rw [e]; exact h4
    · rw [e]; intro e2; injection e2 with e2; omega
theorem LW.hx {w W : World} {B m : Nat} {xs ts : List Int} (h : LW w B m xs ts W) (c : Int) (hl : m ≤ 1000) :
    Calls Tryd.prog 19 #[.pointer (some ⟨B, 0, none⟩), .string (strOfNums (hexN [c]))] W fun e W' => (∃ n, e = .returned (.tuple #[.int .i64 n, .nilIface])) ∧ LW w B (m + 2) (xs ++ hexN [c]) ts W' :=
  h.hex (hexN [c]) (hexN_isB _) (by rw [hexN_len]; simp; omega)
/-- The text's builder alone, once the other one has been told. -/
structure TW (w : World) (B : Nat) (ts : List Int) (W : World) : Prop where
  one_ : ∃ u, WB W B (B + 1) u (ts.map (Value.int .u8))
  below : Below B w W
theorem LW.told {w W : World} {B m : Nat} {xs ts : List Int} (h : LW w B m xs ts W) (hx : isB xs) (h0 : xs ≠ []) :
    Calls Tryd.prog 21 #[.pointer (some ⟨B, 0, none⟩)] W fun e W' => e = .returned (.string (strOfNums xs)) ∧ TW w B ts W' := by
  obtain ⟨⟨v, u, h1, h2, h3, h4, h5⟩, hbl, hB, hm⟩ := h
  refine (bstrN.calls B B v xs W h1 hx h0).mono ?_
  rintro e W' ⟨rfl, g1, g2, g3⟩
  refine ⟨rfl, ⟨u, ?_⟩, hbl.trans g3⟩
  refine ⟨h2.le, by rw [g1 _ h5]; exact h2.blk, ?_, h2.ne⟩
  obtain ⟨k1, k2⟩ := h2.own
  refine ⟨k1, ?_⟩
  rcases k2 with k2 | ⟨g, cap, cur, hu, hbg, hg, r⟩
  · exact .inl k2
  · exact .inr ⟨g, cap, cur, hu, hbg, by rw [g1 g (h3 g (by rw [hu]; rfl))]; exact hg, r⟩
theorem TW.told {w W : World} {B : Nat} {ts : List Int} (h : TW w B ts W) (hx : isB ts) (h0 : ts ≠ []) :
    Calls Tryd.prog 21 #[.pointer (some ⟨B + 1, 0, none⟩)] W fun e W' => e = .returned (.string (strOfNums ts)) ∧ Below B w W' := by
  obtain ⟨⟨u, h2⟩, hbl⟩ := h
  refine (bstrN.calls B (B + 1) u ts W h2 hx h0).mono ?_
  rintro e W' ⟨rfl, g1, g2, g3⟩
  exact ⟨rfl, hbl.trans g3⟩
/-- Hex of one byte, in the midst of a line. -/
theorem LW.pair {w W : World} {B m : Nat} {xs ts : List Int} (h : LW w B m xs ts W) (c : Int) (A : Option Addr) (n cc : Nat) (hn : n = 1) (hcc : 1 ≤ cc) (hC : Kd.C (Kd.int .u8) W A n [c]) (h0 : 0 ≤ c) (h1 : c ≤ 255) :
    Calls Tryd.prog 8 #[.slice A n cc] W fun e W' => e = .returned (.string (strOfNums (hexN [c]))) ∧ LW w B m xs ts W' := by
  subst hn
  obtain ⟨k, hk⟩ := (hexB_ev [c] (isB_one h0 h1) (by simp)).rounds
  refine (bits_Hex.calls k A cc [c] _ W hC hcc hk).mono ?_
  rintro e W' ⟨rfl, hb⟩
  exact ⟨rfl, h.move hb⟩
theorem LW.row {w W : World} {B m : Nat} {xs ts : List Int} (h : LW w B m xs ts W) {A : Option Addr} {n : Nat} {b : List Int} (hC : Kd.C (Kd.int .u8) w A n b) : Kd.C (Kd.int .u8) W A n b := Kd.C_below hC (by rw [h.eqB]; exact h.below)
end Go.Proofs.YtlilcbpcjmcfbaaDoor.Pure
