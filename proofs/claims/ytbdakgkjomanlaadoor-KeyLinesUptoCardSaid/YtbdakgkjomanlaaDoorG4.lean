/- The program's Lines: the walk with its builder. Conditions: no more than 40000 secrets, of bytes, that can be read. -/
import Derived.Test.YtbdakgkjomanlaaDoorG2
import Derived.Deep.RegionHeld3
import Derived.BigRegion
import Derived.Test.YtbdakgkjomanlaaDoorDx8
import Derived.Test.YtbdakgkjomanlaaDoorDx9
namespace Go.Proofs.YtbdakgkjomanlaaDoor.Pure
open Go.RowKit Go.Shelf Go.Proofs.YtbdakgkjomanlaaDoor.D Go.Proofs.YtbdakgkjomanlaaDoor.Hand Go.Proofs.YtbdakgkjomanlaaDoorW.PrintWords Go.Proofs.YtbdakgkjomanlaaDoorW.PrintLast Go.Proofs.YtbdakgkjomanlaaDoorW.PrintMore
attribute [local go_sem] Oper.semAt_some max2_int min2_int max_two min_two max_three min_three max_four min_four
set_option linter.unusedVariables false
theorem WB.kept {W W' : World} {B b : Nat} {v : Value} {bs : List Value} (h : WB W B b v bs) (hk : ∀ k, k < W.heap.size → W'.heap[k]? = W.heap[k]?) : WB W' B b v bs := by
  refine ⟨h.le, by rw [hk b h.lt]; exact h.blk, ?_, h.ne⟩
  obtain ⟨h1, h2⟩ := h.own
  refine ⟨h1, ?_⟩
  rcases h2 with h2 | ⟨g, cap, cur, hu, hbg, hg, r⟩
  · exact .inl h2
  · refine .inr ⟨g, cap, cur, hu, hbg, ?_, r⟩
    rw [hk g (h.ownlt (by rw [hu]; rfl))]
    exact hg
theorem strCells_app (a b : ByteArray) : Lib.strCells (a ++ b) = Lib.strCells a ++ Lib.strCells b := by
  unfold Lib.strCells
  rw [ByteArray.data_append, Array.toList_append, List.map_append]
/-- The builder of a text, and that nothing below turned. -/
structure TW (w : World) (B : Nat) (s : ByteArray) (W : World) : Prop where
  one_ : ∃ v, WB W B B v (Lib.strCells s) ∧ (s.size = 0 → v = .slice none 0 0)
  below : Below B w W
  eqB : w.heap.size = B
theorem TW.start (w : World) : TW w w.heap.size (⟨#[]⟩ : ByteArray) (w.alloc (.cells #[.pointer none, .slice none 0 0] 49)) :=
  ⟨⟨.slice none 0 0, WB.start w _ (Nat.le_refl _), fun _ => rfl⟩, (Below.refl _ w).alloc (Nat.le_refl _) _, rfl⟩
theorem TW.move {w W W' : World} {B : Nat} {s : ByteArray} (h : TW w B s W) (hb : Below W.heap.size W W') : TW w B s W' := by
  obtain ⟨⟨v, h1, h2⟩, hbl, hB⟩ := h
  exact ⟨⟨v, h1.kept hb.block, h2⟩, hbl.trans (hb.mono (hB ▸ hbl.size)), hB⟩
theorem TW.old {w W : World} {B : Nat} {s : ByteArray} (h : TW w B s W) : Below w.heap.size w W := by rw [h.eqB]; exact h.below
theorem TW.put {w W : World} {B : Nat} {s : ByteArray} (h : TW w B s W) (t u : ByteArray) (ht : 0 < t.size) (hu : s ++ t = u) (hl : s.size + t.size ≤ 140737488355328) :
    Calls Tryd.prog 22 #[.pointer (some ⟨B, 0, none⟩), .string t] W fun e W' => (∃ n, e = .returned (.tuple #[.int .i64 n, .nilIface])) ∧ TW w B u W' ∧ ∀ (k : Nat) (cs : Array Value), W.heap[k]? = some (.cells cs 33 (0, 0)) → W'.heap[k]? = some (.cells cs 33 (0, 0)) := by
  subst hu
  obtain ⟨⟨v, h1, h2⟩, hbl, hB⟩ := h
  refine (wstr.calls B B v _ t W h1 (by rw [Lib.strCells_length]; exact hl) (hB ▸ hbl.size)).mono ?_
  rintro e W' ⟨rfl, v', g1, g2, g3⟩
  refine ⟨⟨_, rfl⟩, ⟨⟨v', by rw [strCells_app]; exact g1, fun e => by rw [ByteArray.size_append] at e; omega⟩, hbl.trans g3, hB⟩, fun k cs hk => ?_⟩
  rw [g2.old k (Array.getElem?_eq_some_iff.1 hk).1 ?_ ?_]
  · exact hk
  · rintro rfl
    rcases h1.blk with h | h
    · rw [hk] at h; simp at h
    · rw [hk] at h; simp at h
  · intro e
    rcases h1.own.2 with ⟨rfl, _⟩ | ⟨g, cap, cur, rfl, _, hg, _⟩
    · simp [Value.ownBlock] at e
    · obtain rfl : g = k := by simpa [Value.ownBlock] using e
      rw [hk] at hg
      simp at hg
theorem TW.told {w W : World} {B : Nat} {s : ByteArray} (h : TW w B s W) :
    Calls Tryd.prog 24 #[.pointer (some ⟨B, 0, none⟩)] W fun e W' => e = .returned (.string s) ∧ Below B w W' := by
  obtain ⟨⟨v, h1, h2⟩, hbl, hB⟩ := h
  by_cases h0 : s.size = 0
  · have hv := h2 h0
    subst hv
    have e : s = (⟨#[]⟩ : ByteArray) := ba_ext (List.eq_nil_of_length_eq_zero (by rw [← Lib.size_eq]; exact h0))
    subst e
    refine (bstr.emp B B W h1).mono ?_
    rintro e W' ⟨rfl, g⟩
    exact ⟨rfl, hbl.trans g⟩
  · refine (bstr.calls B B v s.data.toList W h1 (fun e => h0 (by rw [Lib.size_eq, e]; rfl))).mono ?_
    rintro e W' ⟨rfl, g1, g2, g3⟩
    exact ⟨by rw [Lib.mk_data], hbl.trans g3⟩
theorem hexS.calls (A : Option Addr) (n c : Nat) (b : List Int) (W : World) (h : NumsAt A n c b W) (hb : isB b) (hl : b.length ≤ 40000) (q : ByteArray) (hq : strOfNums (hexN b) = q) :
    Calls Tryd.prog 23 #[.slice A n c] W fun e w' => e = .returned (.string q) ∧ Below W.heap.size W w' := by
  obtain ⟨rfl, h2, h3⟩ := h
  subst hq
  obtain ⟨k, hk⟩ := (hexB_ev b hb (by omega)).rounds
  exact bits_Hex.calls k A c b _ W h3 h2 hk
theorem txtN.calls (A : Option Addr) (n c : Nat) (l : List Int) (b : Bool) (W : World) (h : NumsAt A n c l W) (hb : txtOk l = b) :
    Calls Tryd.prog 21 #[.slice A n c] W fun e w' => e = .returned (.bool b) ∧ Below W.heap.size W w' := by
  obtain ⟨rfl, h2, h3⟩ := h
  exact txtS.calls A c l b W h3 h2 hb
/-- The element at a place, as it lies. -/
theorem sec_at {w : World} {A : Option Addr} {n : Nat} {L : List S33} (h : Kd.C k33 w A n L) (x : Int) (h0 : 0 ≤ x) (h1 : x < n) : ∃ ad A1 n1 c1, A = some ad ∧ w.cell? (ad.add (x.toNat * 2)) = some (.string (rd_T33 L x).f0) ∧ w.cell? ⟨(ad.add (x.toNat * 2)).block, (ad.add (x.toNat * 2)).off + 1, none⟩ = some (.slice A1 n1 c1) ∧ NumsAt A1 n1 c1 (rd_T33 L x).f1 w := by
  obtain ⟨ad, A1, c1, e, h3, h4, h5, h6⟩ := at_T33 h x h0 h1
  exact ⟨ad, A1, _, c1, e, h3, h4, rfl, h5, h6⟩
theorem allOk_bad {L : List S33} {n j : Nat} {s : S33} (hj : j < n) (hs : rd_T33 L (j : Int) = s) (h : okS s = false) : allOk L n 0 = false := by
  rw [Bool.eq_false_iff]
  intro e
  have h2 := allOk_at L n 0 e j (by omega) (by omega)
  rw [hs, h] at h2
  cases h2
theorem linesA_bad {L : List S33} {n : Nat} (hn : L.length = n) (h : allOk L n 0 = false) : linesA L = (⟨#[]⟩, 1) := by unfold linesA; rw [hn, if_pos h]
theorem box_cells {W : World} {k : Nat} {a b : Value} (h : W.heap[k]? = some (.cells #[a, b] 33 (0, 0))) : W.cell? ⟨k, 0, none⟩ = some a ∧ W.cell? ⟨k, 1, none⟩ = some b := ⟨blk_cell h 0, blk_cell h 1⟩
theorem allOk_true (L : List S33) : ∀ (d i : Nat), (∀ j : Nat, i ≤ j → j < i + d → okS (rd_T33 L (j : Int)) = true) → allOk L d i = true
  | 0, i, _ => rfl
  | d + 1, i, h => by rw [allOk, h i (by omega) (by omega), Bool.true_and]; exact allOk_true L d (i + 1) (fun j h1 h2 => h j (by omega) (by omega))
theorem okS_is (x : S33) : okS x = (labOk x.f0 && (!(bt x.f0 0 == 35) && txtOk x.f1)) := rfl
set_option maxHeartbeats 4000000 in
set_option maxRecDepth 100000 in
theorem blines.calls (A : Option Addr) (c : Nat) (L : List S33) (w : World) (hC : Kd.C k33 w A L.length L) (hc : L.length ≤ c) (hS : Sized L) :
    Calls Tryd.prog 11 #[.slice A L.length c] w fun e w' => e = .returned (.tuple #[.string (linesA L).1, .int .i64 (linesA L).2]) ∧ Below w.heap.size w w' := by
  obtain ⟨n, hn⟩ : ∃ n, L.length = n := ⟨_, rfl⟩
  rw [hn] at hC hc ⊢
  have HC := Aside0.mk hC
  have HN := Aside0.mk hn
  have HS := Aside0.mk hS
  have HCC := Aside0.mk hc
  have HL0 := Aside0.mk (TW.start w)
  clear hC hn hS hc
  obtain ⟨i0, hi, hz0⟩ : ∃ i, Tryd.prog.info? 49 = some i ∧ i.zero = some (.agg #[.pointer none, .slice none 0 0]) := by
    refine ⟨_, rfl, ?_⟩
    kernel_rfl
  go_enter Tryd.func11, Tryd.ntmps11
  go_wp2
  obtain ⟨B, hB⟩ : ∃ B, w.heap.size = B := ⟨_, rfl⟩
  rw [hB] at HL0 ⊢
  have HBB := Aside0.mk hB
  clear hB
  go_loopg [9] n (fun kq v9 W' => ∃ (j : Nat) (x : Int), v9 = .int .i64 x ∧ x = (j : Int) ∧ j + kq = n ∧ Aside0 (TW w B (textA (L.take j)) W') ∧ Aside0 (∀ q : Nat, q < j → okS (rd_T33 L (q : Int)) = true))
  case atStart => exact ⟨0, 0, rfl, rfl, by omega, HL0, ⟨fun q hq => by omega⟩⟩
  case round =>
    clear HL0
    obtain ⟨j, x, rfl, hx, hjk, HD, HK⟩ := hrel
    by_cases hj : j < n
    · obtain ⟨q, rfl⟩ : ∃ q, gk = q + 1 := ⟨gk - 1, by omega⟩
      have f0 : decide (x < (n : Int)) = true := decide_eq_true (by omega)
      have p0 : 0 ≤ x := by omega
      have q0 : x < (n : Int) := by omega
      obtain ⟨ad, A1, n1, c1, eA, hx0, hx1, hnum⟩ := sec_at (Kd.C_below HC.out (TW.old HD.out)) x p0 q0
      subst eA
      obtain ⟨hz1, hz2, hz3⟩ := HS.out.2 j (by have := HN.out; omega)
      rw [← hx] at hz1 hz2 hz3
      obtain ⟨sec, hsec⟩ : ∃ s, rd_T33 L x = s := ⟨_, rfl⟩
      rw [hsec] at hx0 hz1 hz2 hz3 hnum
      obtain ⟨y, hy⟩ : ∃ y : Int, x + 1 = y := ⟨_, rfl⟩
      have hn4 := HS.out.1
      rw [HN.out] at hn4
      have i9 : wrap64 (x + 1) = y := by rw [w64 (by omega) (by omega), hy]
      have i8 : IntKind.i64.wrap (x + 1) = y := (i64_w _).trans i9
      have HX : Aside0 (x = (j : Int) ∧ x + 1 = y ∧ j + (q + 1) = n ∧ j < n ∧ n ≤ 40000) := ⟨by omega⟩
      have HZ1 : Aside0 (sec.f0.size ≤ 1000000) := ⟨by omega⟩
      have HZ2 := Aside0.mk hz2
      have HZ3 := Aside0.mk hz3
      have HSEC : Aside0 (rd_T33 L (j : Int) = sec) := ⟨by rw [← hx]; exact hsec⟩
      have HNUM := Aside0.mk hnum
      have hP : (wr.alloc (.cells #[.string sec.f0, .slice A1 n1 c1] 33)).heap[wr.heap.size]? = some (.cells #[.string sec.f0, .slice A1 n1 c1] 33 (0, 0)) := World.alloc_heap_new _ _
      have hbP : Below wr.heap.size wr (wr.alloc (.cells #[.string sec.f0, .slice A1 n1 c1] 33)) := (Below.refl _ _).alloc (Nat.le_refl _) _
      have HP := Aside0.mk hP
      have HD1 := Aside0.mk (HD.out.move hbP)
      have HN1 := Aside0.mk (hnum.move hbP)
      have k0 := blk_cell hP 0
      have k1 := blk_cell hP 1
      clear hx hjk hj hz1 hz2 hz3 hnum hy hn4 hsec hP hbP
      have p0b := eq_true p0
      have q0b := eq_true q0
      rcases Bool.eq_false_or_eq_true (labOk sec.f0) with hl | hl
      · have HL := Aside0.mk hl
        have HZ0 : Aside0 (0 < sec.f0.size) := ⟨by
          unfold labOk at hl
          simp only [Bool.and_eq_true, decide_eq_true_eq] at hl
          have := hl.1.1
          omega⟩
        have z0 := HZ0.out
        have z1 : (0 : Int) < (sec.f0.size : Int) := by omega
        have hx15 : ∀ h : 0 < sec.f0.size, ((sec.f0[0]'h).toNat : Int) = bt sec.f0 0 := bt_at sec.f0 0
        by_cases c35 : bt sec.f0 0 = 35
        · have c15 : (bt sec.f0 0 == 35) = true := beq_iff_eq.mpr c35
          have HBAD : Aside0 (linesA L = (⟨#[]⟩, 1)) := ⟨linesA_bad HN.out (allOk_bad HX.out.2.2.2.1 HSEC.out (by rw [okS_is, c15, Bool.not_true, Bool.false_and, Bool.and_false]))⟩
          clear hl c35
          go_wp2_with (first
            | (go_at_call 20; (with_reducible refine (labS.calls sec.f0 _ _ HZ1.out HL.out).mono ?_); rintro e W1 ⟨rfl, hb⟩; have HD2 := Aside0.mk (HD1.out.move hb); have HP2 := Aside0.mk (blkU HP.out hb); have HN2 := Aside0.mk (HN1.out.move hb); have k2 := blk_cell HP2.out 0; have k3 := blk_cell HP2.out 1; clear hb))
          go_ret2
          exact ⟨by rw [HBAD.out]; rfl, HD2.out.old⟩
        · have c15 : (bt sec.f0 0 == 35) = false := beq_eq_false_iff_ne.mpr c35
          rcases Bool.eq_false_or_eq_true (txtOk sec.f1) with ht | ht
          · have HTX := Aside0.mk ht
            have HOK : Aside0 (okS sec = true) := ⟨by rw [okS_is, hl, c15, ht]; rfl⟩
            clear hl c35 ht
            go_wp2_with (first
              | (go_at_call 20; (with_reducible refine (labS.calls sec.f0 _ _ HZ1.out HL.out).mono ?_); rintro e W1 ⟨rfl, hb⟩; have HD2 := Aside0.mk (HD1.out.move hb); have HP2 := Aside0.mk (blkU HP.out hb); have HN2 := Aside0.mk (HN1.out.move hb); have k2 := blk_cell HP2.out 0; have k3 := blk_cell HP2.out 1; clear hb)
              | (go_at_call 21; (with_reducible refine (txtN.calls A1 n1 c1 sec.f1 _ _ HN2.out HTX.out).mono ?_); rintro e W2 ⟨rfl, hb⟩; have HD3 := Aside0.mk (HD2.out.move hb); have HP3 := Aside0.mk (blkU HP2.out hb); have HN3 := Aside0.mk (HN2.out.move hb); have k4 := blk_cell HP3.out 0; have k5 := blk_cell HP3.out 1; clear hb))
            obtain ⟨qh, hqh⟩ : ∃ q, strOfNums (hexN sec.f1) = q := ⟨_, rfl⟩
            have hqs : qh.size = 2 * sec.f1.length := by rw [← hqh, strOfNums_size, hexN_len]
            have hls := lineA_size sec
            have hok := okS_size HOK.out
            have HLN : Aside0 (((sec.f0 ++ (⟨#[32]⟩ : ByteArray)) ++ qh) ++ (⟨#[10]⟩ : ByteArray) = lineA sec) := ⟨by rw [← hqh]; rfl⟩
            have HLS : Aside0 (0 < (((sec.f0 ++ (⟨#[32]⟩ : ByteArray)) ++ qh) ++ (⟨#[10]⟩ : ByteArray)).size ∧ (textA (L.take j)).size + (((sec.f0 ++ (⟨#[32]⟩ : ByteArray)) ++ qh) ++ (⟨#[10]⟩ : ByteArray)).size ≤ 140737488355328) := ⟨by
              have h9 := textA_size (L := L) j (by rw [HN.out]; have := HX.out; omega) HK.out
              rw [HLN.out]
              have := HX.out
              omega⟩
            have HNX : Aside0 (textA (L.take j) ++ (((sec.f0 ++ (⟨#[32]⟩ : ByteArray)) ++ qh) ++ (⟨#[10]⟩ : ByteArray)) = textA (L.take (j + 1))) := ⟨by rw [HLN.out, textA_next (by rw [HN.out]; have := HX.out; omega), HSEC.out]⟩
            have s1 : (9223372036854775807 < sec.f0.size + 1) = False := eq_false (by omega)
            have s2 : (9223372036854775807 < sec.f0.size + 1 + qh.size) = False := eq_false (by omega)
            have s3 : (9223372036854775807 < sec.f0.size + 1 + qh.size + 1) = False := eq_false (by omega)
            have HQ := Aside0.mk hqh
            clear hqh hqs hls hok
            have HDr := Aside0.mk (HD3.out.move (W' := W2.drew) (Below.drew (Below.refl _ _)))
            have HNr := Aside0.mk (HN3.out.move (W' := W2.drew) (Below.drew (Below.refl _ _)))
            have HPr : Aside0 (W2.drew.heap[wr.heap.size]? = some (.cells #[.string sec.f0, .slice A1 n1 c1] 33 (0, 0))) := ⟨HP3.out⟩
            clear k0 k1 k2 k3 k4 k5
            go_region_held3 (fun w' => w'.cell? ⟨wr.heap.size, 0, none⟩ = some (.string sec.f0) ∧ w'.cell? ⟨wr.heap.size, 1, none⟩ = some (.slice A1 n1 c1)) (first | exact box_cells HP5.out | exact box_cells HP4.out | exact box_cells HPr.out) (first
              | (go_at_call 23; (with_reducible refine (hexS.calls A1 n1 c1 sec.f1 _ HNr.out HZ3.out HZ2.out qh HQ.out).mono ?_); rintro e W4 ⟨rfl, hb⟩; have HD4 := Aside0.mk (HDr.out.move hb); have HP4 := Aside0.mk (blkU HPr.out hb); clear hb)
              | (go_at_call 22; (with_reducible refine (TW.put HD4.out _ _ HLS.out.1 HNX.out HLS.out.2).mono ?_); rintro e W5 ⟨⟨m5, rfl⟩, h1, h2⟩; have HD5 := Aside0.mk h1; have HP5 := Aside0.mk (h2 _ _ HP4.out); clear h1 h2))
            go_wp2
            go_roundg q
            case measure => have := HX.out; omega
            case rel => exact ⟨j + 1, _, rfl, (by have := HX.out; omega), (by have := HX.out; omega), HD5, ⟨fun r hr => by
              by_cases c : r = j
              · rw [c, HSEC.out]; exact HOK.out
              · exact HK.out r (by omega)⟩⟩
          · have HTX := Aside0.mk ht
            have HBAD : Aside0 (linesA L = (⟨#[]⟩, 1)) := ⟨linesA_bad HN.out (allOk_bad HX.out.2.2.2.1 HSEC.out (by rw [okS_is, ht, Bool.and_false, Bool.and_false]))⟩
            clear hl c35 ht
            go_wp2_with (first
              | (go_at_call 20; (with_reducible refine (labS.calls sec.f0 _ _ HZ1.out HL.out).mono ?_); rintro e W1 ⟨rfl, hb⟩; have HD2 := Aside0.mk (HD1.out.move hb); have HP2 := Aside0.mk (blkU HP.out hb); have HN2 := Aside0.mk (HN1.out.move hb); have k2 := blk_cell HP2.out 0; have k3 := blk_cell HP2.out 1; clear hb)
              | (go_at_call 21; (with_reducible refine (txtN.calls A1 n1 c1 sec.f1 _ _ HN2.out HTX.out).mono ?_); rintro e W2 ⟨rfl, hb⟩; have HD3 := Aside0.mk (HD2.out.move hb); have HP3 := Aside0.mk (blkU HP2.out hb); have HN3 := Aside0.mk (HN2.out.move hb); have k4 := blk_cell HP3.out 0; have k5 := blk_cell HP3.out 1; clear hb))
            go_ret2
            exact ⟨by rw [HBAD.out]; rfl, HD3.out.old⟩
      · have HL := Aside0.mk hl
        have HBAD : Aside0 (linesA L = (⟨#[]⟩, 1)) := ⟨linesA_bad HN.out (allOk_bad HX.out.2.2.2.1 HSEC.out (by rw [okS_is, hl, Bool.false_and]))⟩
        clear hl
        go_wp2_with (first
          | (go_at_call 20; (with_reducible refine (labS.calls sec.f0 _ _ HZ1.out HL.out).mono ?_); rintro e W1 ⟨rfl, hb⟩; have HD2 := Aside0.mk (HD1.out.move hb); have HP2 := Aside0.mk (blkU HP.out hb); have HN2 := Aside0.mk (HN1.out.move hb); have k2 := blk_cell HP2.out 0; have k3 := blk_cell HP2.out 1; clear hb))
        go_ret2
        exact ⟨by rw [HBAD.out]; rfl, HD2.out.old⟩
    · have f0 : decide (x < (n : Int)) = false := decide_eq_false (by omega)
      have HJ : Aside0 (j = n ∧ textA (L.take j) = textA L) := ⟨by omega, by rw [List.take_of_length_le (by rw [HN.out]; omega)]⟩
      have HALL : Aside0 (allOk L n 0 = true) := ⟨allOk_true L n 0 (fun r _ hr => HK.out r (by omega))⟩
      have HT : Aside0 (TW w B (textA L) wr) := ⟨by rw [← HJ.out.2]; exact HD.out⟩
      clear hx hjk hj
      by_cases c60 : 60 < n
      · have g1 : decide (60 < (n : Int)) = true := decide_eq_true (by omega)
        have g2 : decide (60 < n) = true := decide_eq_true c60
        have HR : Aside0 (linesA L = (⟨#[]⟩, 3)) := ⟨by unfold linesA; rw [HN.out, HALL.out, if_neg (by decide), if_pos (by omega)]⟩
        clear c60
        go_wp2
        go_ret2
        exact ⟨by rw [HR.out]; rfl, HT.out.old⟩
      · have g1 : decide (60 < (n : Int)) = false := decide_eq_false (by omega)
        have g2 : decide (60 < n) = false := decide_eq_false c60
        have HR : Aside0 (linesA L = (textA L, 0)) := ⟨by unfold linesA; rw [HN.out, HALL.out, if_neg (by decide), if_neg (by omega)]⟩
        clear c60
        go_wp2_with (go_at_call 24; (with_reducible refine (TW.told HT.out).mono ?_); rintro e W1 ⟨rfl, h1⟩; have HE := Aside0.mk h1; clear h1)
        go_ret2
        exact ⟨by rw [HR.out]; rfl, by rw [HBB.out]; exact HE.out⟩
end Go.Proofs.YtbdakgkjomanlaaDoor.Pure
namespace Go.Proofs.YtbdakgkjomanlaaDoor.Pure
open Go.RowKit Go.Shelf Go.Proofs.YtbdakgkjomanlaaDoor.D Go.Proofs.YtbdakgkjomanlaaDoor.Hand Go.Proofs.YtbdakgkjomanlaaDoorW.PrintWords Go.Proofs.YtbdakgkjomanlaaDoorW.PrintLast Go.Proofs.YtbdakgkjomanlaaDoorW.PrintMore
attribute [local go_sem] Oper.semAt_some max2_int min2_int max_two min_two max_three min_three max_four min_four
set_option linter.unusedVariables false
/-- Secrets of a bulk that a machine bears. -/
def Borne (L : List S33) : Prop := L.length ≤ 1048576 ∧ ∀ i : Nat, i < L.length → (rd_T33 L (i : Int)).f0.size ≤ 1048576 ∧ (rd_T33 L (i : Int)).f1.length ≤ 1048576 ∧ isB (rd_T33 L (i : Int)).f1
theorem linesA_yes {L : List S33} {t : ByteArray} (h : linesA L = (t, 0)) : allOk L L.length 0 = true ∧ L.length ≤ 60 ∧ t = textA L := by
  unfold linesA at h
  cases hc : allOk L L.length 0 with
  | false => rw [hc, if_pos rfl] at h; simp at h
  | true =>
    rw [hc, if_neg (by decide)] at h
    split at h
    · simp at h
    · next h2 =>
      injection h with h3 _
      exact ⟨rfl, by omega, h3.symm⟩
theorem lawL1 (A : Option Addr) (n c : Nat) (L : List S33) (W : World) (hn : L.length = n) (hC : Kd.C k33 W A n L) (hc : n ≤ c) (hS : Sized L) (t : ByteArray) (er : Int) (hl : linesA L = (t, er)) :
    Calls Tryd.prog 11 #[.slice A n c] W fun e w' => e = .returned (.tuple #[.string t, .int .i64 er]) ∧ Below W.heap.size W w' := by
  subst hn
  have h := blines.calls A c L W hC hc hS
  rw [hl] at h
  exact h
theorem lawL2 (A : Option Addr) (n c : Nat) (L : List S33) (W : World) (hn : L.length = n) (hC : Kd.C k33 W A n L) (hc : n ≤ c) (hS : Sized L) (t : ByteArray) (er : Int) (hl : linesA L = (t, er)) :
    Calls Tryd.prog 12 #[.slice A n c] W fun e w' => e = .returned (.tuple #[.string t, .int .i64 er]) ∧ Below W.heap.size W w' := by
  subst hn
  obtain ⟨k, hk⟩ := (linesR_ev L hS).rounds
  rw [hl] at hk
  exact wireglassref21_Lines.calls k A c L t er W hC hc hk
theorem secs_in {A : Option Addr} {n c : Nat} {L : List S33} {W : World} (hn : L.length = n) (hc : n ≤ c) (hC : Kd.C k33 W A n L) : SecsAt A c L W := by
  subst hn
  exact ⟨hc, hC⟩
theorem lawL3 (t : ByteArray) (L : List S33) (n : Nat) (hn : L.length = n) (W : World) (hT : Tabs W) (hl : LogS t (L, (L.length : Int), 0)) : Calls Tryd.prog 6 #[.string t] W fun e w' => ∃ A c, e = .returned (.tuple #[.slice A n c, .int .i64 (n : Int), .int .i64 0]) ∧ SecsAt A c L w' ∧ Below W.heap.size W w' := by
  subst hn
  refine (lawB1 t W hT).mono ?_
  rintro e w' ⟨A, m, c, n, er, K, rfl, hm, hs, hl2, hb⟩
  have h := logS_one hl2 hl
  injection h with h1 h2
  injection h2 with h2 h3
  subst h1 h2 h3 hm
  exact ⟨A, c, rfl, hs, hb⟩
set_option maxHeartbeats 4000000 in
set_option maxRecDepth 100000 in
theorem KeyLines.walk0 (A : Option Addr) (c : Nat) (L : List S33) (W : World) (hT : Tabs W) (hC : Kd.C k33 W A L.length L) (hc : L.length ≤ c) (hB : Borne L) :
    Calls Tryd.prog 4 #[.slice A L.length c] W fun e w' => e = .returned (.bool true) ∧ Below W.heap.size W w' := by
  have HT := Aside0.mk hT
  obtain ⟨N, hN⟩ : ∃ N, L.length = N := ⟨_, rfl⟩
  rw [hN] at hC hc ⊢
  have HC := Aside0.mk hC
  have HN := Aside0.mk hN
  have HCC := Aside0.mk hc
  have HBO := Aside0.mk hB
  have hm0 : N ≤ 1048576 := by rw [← hN]; exact hB.1
  clear hT hC hN hc hB
  go_enter Tryd.func4, Tryd.ntmps4
  go_wp2
  go_loopg [3, 4] N (fun kq v3 v4 W' => ∃ (i : Nat) (n x : Int), v4 = .int .i64 x ∧ v3 = .int .i64 n ∧ x = (i : Int) ∧ i + kq = N ∧ Aside0 ((N : Int) ≤ n ∧ n ≤ (N : Int) + (i : Int) * 2097152 ∧ ∀ j : Nat, j < i → ((rd_T33 L (j : Int)).f0.size : Int) + ((rd_T33 L (j : Int)).f1.length : Int) ≤ n) ∧ Aside0 (Below W.heap.size W W'))
  case atStart => exact ⟨0, _, _, rfl, rfl, rfl, by omega, ⟨by omega, by omega, fun j hj => by omega⟩, ⟨Below.refl _ _⟩⟩
  case round =>
    obtain ⟨i, n, x, rfl, rfl, hx, hk, HI, HB⟩ := hrel
    by_cases hi : i < N
    · obtain ⟨q, rfl⟩ : ∃ q, gk = q + 1 := ⟨gk - 1, by omega⟩
      have p0 : 0 ≤ x := by omega
      have q0 : x < (N : Int) := by omega
      obtain ⟨ad, A1, n1, c1, eA, hx0, hx1, hnum⟩ := sec_at (Kd.C_below HC.out HB.out) x p0 q0
      subst eA
      obtain ⟨hz1, hz2, hz3⟩ := HBO.out.2 i (by rw [HN.out]; exact hi)
      rw [← hx] at hz1 hz2
      obtain ⟨sec, hsec⟩ : ∃ s, rd_T33 L x = s := ⟨_, rfl⟩
      rw [hsec] at hx0 hz1 hz2 hnum
      have hn1 := hnum.1
      have HX : Aside0 (x = (i : Int) ∧ i + (q + 1) = N ∧ i < N ∧ N ≤ 1048576 ∧ sec.f0.size ≤ 1048576 ∧ n1 ≤ 1048576 ∧ n1 = sec.f1.length ∧ rd_T33 L (i : Int) = sec) := ⟨hx, hk, hi, hm0, hz1, by omega, hn1, by rw [← hx]; exact hsec⟩
      clear hz1 hz2 hz3 hnum hn1 hx hk hi hsec
      have p0b := eq_true p0
      have q0b := eq_true q0
      go_upto_region 5 with (fail)
      go_region
      have HSUM : Aside0 (wrap64 (n + wrap64 ((sec.f0.size : Int) + (n1 : Int))) = n + ((sec.f0.size : Int) + (n1 : Int))) := ⟨by
        have h1 := HX.out
        have h2 := HI.out.2.1
        have h3 := HI.out.1
        rw [w64 (n := (sec.f0.size : Int) + (n1 : Int)) (by omega) (by omega), w64 (by omega) (by omega)]⟩
      have i9 : Aside0 (wrap64 (x + 1) = x + 1) := ⟨by have := HX.out; exact w64 (by omega) (by omega)⟩
      go_wp2
      go_roundg q
      case measure => have := HX.out; omega
      case rel =>
        refine ⟨i + 1, n + ((sec.f0.size : Int) + (n1 : Int)), x + 1, ?_, ?_, ?_, ?_, ⟨?_, ?_, ?_⟩, ⟨below_drew HB.out⟩⟩
        · first | rfl | rw [i9.out]
        · rw [HSUM.out]
        · have := HX.out; omega
        · have := HX.out; omega
        · have := HI.out.1; omega
        · have := HI.out.2.1; have := HX.out; omega
        · intro j hj
          have h0 := HX.out
          by_cases cj : j = i
          · rw [cj, h0.2.2.2.2.2.2.2]
            have := HI.out.1
            omega
          · have := HI.out.2.2 j (by omega)
            omega
    · have ei : i = N := by omega
      have HX : Aside0 (i = N) := ⟨ei⟩
      have f0 : decide (x < (N : Int)) = false := decide_eq_false (by omega)
      by_cases q1 : 40000 < n
      · have b1 : decide (40000 < n) = true := decide_eq_true q1
        clear hx hk hi ei q1
        go_wp2_with (go_at_call 5; (with_reducible refine (knownK.calls _).mono ?_); rintro e wk ⟨rfl, hb⟩; have HBK9 := Aside0.mk hb; clear hb)
        go_ret
        exact ⟨rfl, law_tl HB.out HBK9.out⟩
      have b1 : decide (40000 < n) = false := decide_eq_false q1
      have HS : Aside0 (Sized L) := ⟨by
        have h0 := HI.out
        have hNN := HN.out
        refine ⟨by omega, fun j hj => ?_⟩
        have h1 := h0.2.2 j (by omega)
        have h2 := (HBO.out.2 j hj).2.2
        exact ⟨by omega, by omega, h2⟩⟩
      obtain ⟨t1, e1, hl⟩ : ∃ t1 e1, linesA L = (t1, e1) := ⟨_, _, rfl⟩
      have HL := Aside0.mk hl
      clear hx hk hi ei q1 hl
      by_cases ce : e1 = 0
      · subst ce
        obtain ⟨h1, h2, h3⟩ := linesA_yes HL.out
        have HLG : Aside0 (LogS t1 (L, (L.length : Int), 0)) := ⟨by rw [h3]; exact read_back h2 (okS_all HS.out h1)⟩
        have HF := Aside0.mk (logS_fine HLG.out)
        clear h1 h2 h3
        go_wp2_with (first
          | (go_at_call 11; (with_reducible refine (lawL1 A N c L _ HN.out (Kd.C_below HC.out HB.out) HCC.out HS.out t1 0 HL.out).mono ?_); rintro e W1 ⟨rfl, hb⟩; have HB1 := Aside0.mk (law_tl HB.out hb); clear hb)
          | (go_at_call 12; (with_reducible refine (lawL2 A N c L _ HN.out (Kd.C_below HC.out HB1.out) HCC.out HS.out t1 0 HL.out).mono ?_); rintro e W2 ⟨rfl, hb⟩; have HB2 := Aside0.mk (law_tl HB1.out hb); clear hb)
          | (go_at_call 6; (with_reducible refine (lawL3 t1 L N HN.out _ (HT.out.below HB2.out) HLG.out).mono ?_); rintro e W3 ⟨A3, c3, rfl, h3, hb⟩; have H3 := Aside0.mk h3; have HB3 := Aside0.mk (law_tl HB2.out hb); clear hb h3)
          | (go_at_call 10; (with_reducible refine (lawS A3 A N c3 N c L _ HN.out.symm HN.out.symm H3.out (secs_in HN.out HCC.out (Kd.C_below HC.out HB3.out)) HF.out).mono ?_); rintro e W4 ⟨rfl, hb⟩; have HB4 := Aside0.mk (law_tl HB3.out hb); clear hb)
          | (go_at_call 5; (with_reducible refine (knownK.calls _).mono ?_); rintro e W5 ⟨rfl, hb⟩; have HB5 := Aside0.mk (law_tl HB4.out hb); clear hb))
        go_ret
        exact ⟨rfl, HB5.out⟩
      · have ce1 : (e1 == 0) = false := beq_eq_false_iff_ne.mpr ce
        have ce2 : (e1 != 0) = true := bne_iff_ne.mpr ce
        clear ce
        go_wp2_with (first
          | (go_at_call 11; (with_reducible refine (lawL1 A N c L _ HN.out (Kd.C_below HC.out HB.out) HCC.out HS.out t1 e1 HL.out).mono ?_); rintro e W1 ⟨rfl, hb⟩; have HB1 := Aside0.mk (law_tl HB.out hb); clear hb)
          | (go_at_call 12; (with_reducible refine (lawL2 A N c L _ HN.out (Kd.C_below HC.out HB1.out) HCC.out HS.out t1 e1 HL.out).mono ?_); rintro e W2 ⟨rfl, hb⟩; have HB2 := Aside0.mk (law_tl HB1.out hb); clear hb)
          | (go_at_call 5; (with_reducible refine (knownK.calls _).mono ?_); rintro e W3 ⟨rfl, hb⟩; have HB3 := Aside0.mk (law_tl HB2.out hb); clear hb))
        go_ret
        exact ⟨rfl, HB3.out⟩
end Go.Proofs.YtbdakgkjomanlaaDoor.Pure
