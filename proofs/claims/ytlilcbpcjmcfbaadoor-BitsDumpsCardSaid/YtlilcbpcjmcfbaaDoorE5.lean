/- The program's line of a dump: the walk. Conditions: 1 to 16 bytes, a place of at most 100000. -/
import Derived.Test.YtlilcbpcjmcfbaaDoorE4
import Derived.Test.YtlilcbpcjmcfbaaDoorE2
import Derived.Test.YtlilcbpcjmcfbaaDoorHIdx
import Derived.Laws.BytesArg
import Derived.Test.YtlilcbpcjmcfbaaDoorDx2
namespace Go.Proofs.YtlilcbpcjmcfbaaDoor.Pure
open Go.RowKit Go.Shelf Go.Proofs.YtlilcbpcjmcfbaaDoor.D Go.Proofs.YtlilcbpcjmcfbaaDoor.Hand Go.Proofs.YtlilcbpcjmcfbaaDoorW.PrintWords Go.Proofs.YtlilcbpcjmcfbaaDoorW.PrintLast Go.Proofs.YtlilcbpcjmcfbaaDoorW.PrintMore
attribute [local go_sem] Oper.semAt_some max2_int min2_int max_two min_two max_three min_three max_four min_four
set_option linter.unusedVariables false
theorem cut_row (A : Option Addr) (c m : Nat) (l : List Int) (hl : l.length = m) (hc : m ≤ c) (p q : Nat) (hp : p ≤ q) (hq : q ≤ m) : ∃ A' : Option Addr, (∀ W : World, (Instr.slice 22 (.slice A m c) (some (.int .i64 (p : Int))) (some (.int .i64 (q : Int))) none).run Tryd.prog W = .ok (.slice A' (q - p) (c - p)) W) ∧ ∀ w : World, Kd.C (Kd.int .u8) w A m l → Kd.C (Kd.int .u8) w A' (q - p) ((l.take q).drop p) := by
  obtain ⟨i1, hi1, _, hsz1, _⟩ := info_parts info5
  subst hl
  obtain ⟨A', hcut, hC, _⟩ := print_mid_of (P := Tryd.prog) (Value.int .u8) 0 22 5 .i64 .i64 Tryd.underlying22 hi1 hsz1 A c l (p : Int) (q : Int) (by omega) (by omega) (by omega) hc
  have e : ((l.take (q : Int).toNat).drop (p : Int).toNat).length = q - p := by rw [Int.toNat_natCast, Int.toNat_natCast, List.length_drop, List.length_take]; omega
  rw [e, Int.toNat_natCast] at hcut
  refine ⟨A', hcut, fun w h => ?_⟩
  have h2 := Kd.C_of_reads (h1 := fun _ => rfl) (hC w (Kd.reads_of_C h))
  rw [e, Int.toNat_natCast, Int.toNat_natCast] at h2
  exact h2
theorem LW.addr {w W : World} {B m : Nat} {xs ts : List Int} (h : LW w B m xs ts W) (p q : Int) (hp : 0 ≤ p ∧ p ≤ 255) (hq : 0 ≤ q ∧ q ≤ 255) (s : ByteArray) (hs : strOfNums (hexN [p, q]) = s) :
    Calls Tryd.prog 8 #[.slice (some ⟨W.heap.size, 0, none⟩) 2 2] (W.alloc (.cells #[.int .u8 p, .int .u8 q] 5)) fun e W' => e = .returned (.string s) ∧ LW w B m xs ts W' := by
  subst hs
  obtain ⟨k, hk⟩ := (hexB_ev [p, q] (isB_cons hp.1 hp.2 (isB_one hq.1 hq.2)) (by simp)).rounds
  have h1 := h.move ((Below.refl W.heap.size W).alloc (Nat.le_refl _) (.cells #[.int .u8 p, .int .u8 q] 5))
  have hc : Kd.C (Kd.int .u8) (W.alloc (.cells #[.int .u8 p, .int .u8 q] 5)) (some ⟨W.heap.size, 0, none⟩) [p, q].length [p, q] := by
    refine Kd.C_of_reads (enc := Value.int .u8) (d := 0) (h1 := fun _ => rfl) ⟨rfl, by simp, fun _ => ⟨_, rfl, fun j hj => ?_⟩⟩
    have hh : (W.alloc (.cells #[.int .u8 p, .int .u8 q] 5)).heap[W.heap.size]? = some (.cells #[.int .u8 p, .int .u8 q] 5 (0, 0)) := by
      show (W.heap.push _)[W.heap.size]? = some _
      exact Array.getElem?_push_size
    have hj2 : j = 0 ∨ j = 1 := by simp at hj; omega
    rcases hj2 with rfl | rfl
    · show World.cell? _ ⟨W.heap.size, 0, none⟩ = _
      rw [Lib.cell_of_heap hh]; rfl
    · show World.cell? _ ⟨W.heap.size, 1, none⟩ = _
      rw [Lib.cell_of_heap hh]; rfl
  refine (bits_Hex.calls k (some ⟨W.heap.size, 0, none⟩) 2 [p, q] _ _ hc (by simp) hk).mono ?_
  rintro e W' ⟨rfl, hb⟩
  exact ⟨rfl, h1.move hb⟩
theorem LW.told' {w W : World} {B m : Nat} {xs ts : List Int} (h : LW w B m xs ts W) (hx : isB xs) (h0 : xs ≠ []) (s : ByteArray) (hs : strOfNums xs = s) :
    Calls Tryd.prog 21 #[.pointer (some ⟨B, 0, none⟩)] W fun e W' => e = .returned (.string s) ∧ TW w B ts W' := by
  subst hs
  exact h.told hx h0
theorem TW.told' {w W : World} {B : Nat} {ts : List Int} (h : TW w B ts W) (hx : isB ts) (h0 : ts ≠ []) (s : ByteArray) (hs : strOfNums ts = s) :
    Calls Tryd.prog 21 #[.pointer (some ⟨B + 1, 0, none⟩)] W fun e W' => e = .returned (.string s) ∧ Below B w W' := by
  subst hs
  exact h.told hx h0
set_option maxHeartbeats 8000000 in
set_option maxRecDepth 100000 in
theorem bline.calls (a : Int) (ha0 : 0 ≤ a) (ha1 : a ≤ 100000) (A : Option Addr) (c : Nat) (b : List Int) (w : World) (hC : Kd.C (Kd.int .u8) w A b.length b) (hc : b.length ≤ c) (hb : isB b) (h1 : 1 ≤ b.length) (h16 : b.length ≤ 16) :
    Calls Tryd.prog 20 #[.int .i64 a, .slice A b.length c] w fun e w' => e = .returned (.string (strOfNums (lineN a b))) ∧ Below w.heap.size w w' := by
  obtain ⟨n, hn⟩ : ∃ n, b.length = n := ⟨_, rfl⟩
  rw [hn] at hC hc h1 h16 ⊢
  have HC := Aside0.mk hC
  have HN := Aside0.mk hn
  have HB := Aside0.mk hb
  have HL0 := Aside0.mk (LW.start w)
  clear hC hn hb
  obtain ⟨i0, hi, hz0⟩ : ∃ i, Tryd.prog.info? 39 = some i ∧ i.zero = some (.agg #[.pointer none, .slice none 0 0]) := by
    refine ⟨_, rfl, ?_⟩
    kernel_rfl
  go_enter Tryd.func20, Tryd.ntmps20
  go_wp2
  obtain ⟨B, hB⟩ : ∃ B, w.heap.size = B := ⟨_, rfl⟩
  rw [hB] at HL0 ⊢
  have HBB := Aside0.mk hB
  clear hB
  go_loopg [9] 16 (fun kq v9 W' => ∃ i : Nat, v9 = .int .i64 i ∧ i + kq = 16 ∧ Aside0 (LW w B 100 (colsN b i) ((b.take i).map prtN) W'))
  case atStart => exact ⟨0, rfl, rfl, HL0⟩
  case round =>
    clear HL0
    obtain ⟨i, rfl, hik, HL⟩ := hrel
    by_cases hi : i < 16
    · obtain ⟨q, rfl⟩ : ∃ q, gk = q + 1 := ⟨gk - 1, by omega⟩
      have f0 : decide ((i : Int) < 16) = true := decide_eq_true (by omega)
      have i9 : wrap64 ((i : Int) + 1) = (i : Int) + 1 := w64 (by omega) (by omega)
      have i8 : IntKind.i64.wrap ((i : Int) + 1) = (i : Int) + 1 := (i64_w _).trans i9
      have i0 : 0 ≤ (i : Int) := by omega
      by_cases cl : i < n
      · have fl : decide ((n : Int) ≤ (i : Int)) = false := decide_eq_false (by omega)
        have fu : decide ((i : Int) < (n : Int)) = true := decide_eq_true (by omega)
        have fl2 : decide (n ≤ i) = false := decide_eq_false (by omega)
        have fu2 : decide (i < n) = true := decide_eq_true (by omega)
        obtain ⟨A', hcut, hCr⟩ := cut_row A c n b HN.out hc i (i + 1) (by omega) (by omega)
        rw [show ((i + 1 : Nat) : Int) = (i : Int) + 1 by omega, show i + 1 - i = 1 by omega] at hcut
        rw [show i + 1 - i = 1 by omega] at hCr
        have HCR := Aside0.mk hCr
        have HCUT1 : Aside0 ((b.take (i + 1)).drop i = [rd b (i : Int)]) := ⟨cut1 (by rw [HN.out]; exact cl)⟩
        have HRD : Aside0 (0 ≤ rd b (i : Int) ∧ rd b (i : Int) ≤ 255) := ⟨rd_isB HB.out (by rw [HN.out]; exact cl)⟩
        have HTK : Aside0 (b.take (i + 1) = b.take i ++ [rd b (i : Int)]) := ⟨take_rd (by rw [HN.out]; exact cl)⟩
        obtain ⟨ad, eA, _⟩ := Kd.at_int HC.out (i : Int) i0 (by omega)
        subst eA
        have HAT : Aside0 (∀ W : World, Kd.C (Kd.int .u8) W (some ad) n b → W.cell? (ad.add i) = some (.int .u8 (rd b (i : Int)))) := ⟨fun W h => by
          obtain ⟨ad2, e2, h2⟩ := Kd.at_int h (i : Int) i0 (by omega)
          injection e2 with e2
          subst e2
          rw [Int.toNat_natCast] at h2
          exact h2⟩
        clear hCr
        by_cases c8 : i = 8
        · have f8 : ((i : Int) == 8) = true := beq_iff_eq.mpr (by omega)
          have fg : decide (0 < (i : Int)) = true := decide_eq_true (by omega)
          have c0 : 0 < i := by omega
          by_cases p1 : rd b (i : Int) < 32
          · have q1 : decide (rd b (i : Int) < 32) = true := decide_eq_true p1
            have HE1 : Aside0 (colsN b (i + 1) = colsN b i ++ ([32] ++ ([32] ++ hexN [rd b (i : Int)]))) := ⟨by rw [colsN, colN, if_pos (show i = 8 by omega), if_pos (show 0 < i by omega), if_pos (show i < b.length by rw [HN.out]; omega)]⟩
            have HE2 : Aside0 ((b.take (i + 1)).map prtN = (b.take i).map prtN ++ [46]) := ⟨by rw [HTK.out, List.map_append, List.map_cons, List.map_nil]; unfold prtN; rw [if_neg (by omega)]⟩
            have HAR : Aside0 (i + (q + 1) = 16 ∧ n ≤ 16 ∧ 1 ≤ n ∧ n ≤ c ∧ i < n) := ⟨hik, h16, h1, hc, cl⟩
            try clear hik
            try clear h16
            try clear h1
            try clear hc
            try clear hi
            try clear c8
            try clear p1
            try clear p2
            try clear ha0
            try clear ha1
            try clear HTK
            go_wp2_with (first
                  | (go_at_call 19; (with_reducible refine (LW.sp1 HL.out ?lLen).mono ?_); (case lLen => omega); rintro e W1 ⟨⟨n1, rfl⟩, h1⟩; have N1 := Aside0.mk h1; clear h1 HL; have HL := N1; clear N1)
                  | (go_at_call 19; (with_reducible refine (LW.sp2 HL.out ?lLen).mono ?_); (case lLen => omega); rintro e W1 ⟨⟨n1, rfl⟩, h1⟩; have N1 := Aside0.mk h1; clear h1 HL; have HL := N1; clear N1)
                  | (go_at_call 8; (with_reducible refine (LW.pair HL.out (rd b (i : Int)) _ _ _ ?lPn ?lPc ?lPr HRD.out.1 HRD.out.2).mono ?_); (case lPn => omega); (case lPc => have := HAR.out; omega); (case lPr => have h5 := HCR.out _ (LW.row HL.out HC.out); rw [HCUT1.out] at h5; exact h5); rintro e W1 ⟨rfl, h1⟩; have N1 := Aside0.mk h1; clear h1 HL; have HL := N1; clear N1)
                  | (go_at_call 19; (with_reducible refine (LW.hx HL.out (rd b (i : Int)) ?lLen).mono ?_); (case lLen => omega); rintro e W1 ⟨⟨n1, rfl⟩, h1⟩; have hx1 := HAT.out _ (LW.row h1 HC.out); have N1 := Aside0.mk h1; clear h1 HL; have HL := N1; clear N1)
                  | (go_at_call 34; (with_reducible refine (LW.text HL.out _ ?lLen).mono ?_); (case lLen => omega); rintro e W1 ⟨rfl, h1⟩; have N1 := Aside0.mk h1; clear h1 HL; have HL := N1; clear N1))
            go_roundg q
            case measure => omega
            case rel => exact ⟨i + 1, by simp, (by have := HAR.out; omega), ⟨by have h9 := HL.out; (try simp only [List.append_assoc] at h9); rw [← HE1.out, ← HE2.out] at h9; exact h9.re (by have := colsN_bd b (i + 1) (by have := HAR.out; omega); have := HAR.out; omega) (by have := HAR.out; have := HN.out; rw [List.length_map, List.length_take]; omega)⟩⟩
          · have q1 : decide (rd b (i : Int) < 32) = false := decide_eq_false p1
            by_cases p2 : 126 < rd b (i : Int)
            · have q2 : decide (126 < rd b (i : Int)) = true := decide_eq_true p2
              have HE1 : Aside0 (colsN b (i + 1) = colsN b i ++ ([32] ++ ([32] ++ hexN [rd b (i : Int)]))) := ⟨by rw [colsN, colN, if_pos (show i = 8 by omega), if_pos (show 0 < i by omega), if_pos (show i < b.length by rw [HN.out]; omega)]⟩
              have HE2 : Aside0 ((b.take (i + 1)).map prtN = (b.take i).map prtN ++ [46]) := ⟨by rw [HTK.out, List.map_append, List.map_cons, List.map_nil]; unfold prtN; rw [if_neg (by omega)]⟩
              have HAR : Aside0 (i + (q + 1) = 16 ∧ n ≤ 16 ∧ 1 ≤ n ∧ n ≤ c ∧ i < n) := ⟨hik, h16, h1, hc, cl⟩
              try clear hik
              try clear h16
              try clear h1
              try clear hc
              try clear hi
              try clear c8
              try clear p1
              try clear p2
              try clear ha0
              try clear ha1
              try clear HTK
              go_wp2_with (first
                    | (go_at_call 19; (with_reducible refine (LW.sp1 HL.out ?lLen).mono ?_); (case lLen => omega); rintro e W1 ⟨⟨n1, rfl⟩, h1⟩; have N1 := Aside0.mk h1; clear h1 HL; have HL := N1; clear N1)
                    | (go_at_call 19; (with_reducible refine (LW.sp2 HL.out ?lLen).mono ?_); (case lLen => omega); rintro e W1 ⟨⟨n1, rfl⟩, h1⟩; have N1 := Aside0.mk h1; clear h1 HL; have HL := N1; clear N1)
                    | (go_at_call 8; (with_reducible refine (LW.pair HL.out (rd b (i : Int)) _ _ _ ?lPn ?lPc ?lPr HRD.out.1 HRD.out.2).mono ?_); (case lPn => omega); (case lPc => have := HAR.out; omega); (case lPr => have h5 := HCR.out _ (LW.row HL.out HC.out); rw [HCUT1.out] at h5; exact h5); rintro e W1 ⟨rfl, h1⟩; have N1 := Aside0.mk h1; clear h1 HL; have HL := N1; clear N1)
                    | (go_at_call 19; (with_reducible refine (LW.hx HL.out (rd b (i : Int)) ?lLen).mono ?_); (case lLen => omega); rintro e W1 ⟨⟨n1, rfl⟩, h1⟩; have hx1 := HAT.out _ (LW.row h1 HC.out); have N1 := Aside0.mk h1; clear h1 HL; have HL := N1; clear N1)
                    | (go_at_call 34; (with_reducible refine (LW.text HL.out _ ?lLen).mono ?_); (case lLen => omega); rintro e W1 ⟨rfl, h1⟩; have N1 := Aside0.mk h1; clear h1 HL; have HL := N1; clear N1))
              go_roundg q
              case measure => omega
              case rel => exact ⟨i + 1, by simp, (by have := HAR.out; omega), ⟨by have h9 := HL.out; (try simp only [List.append_assoc] at h9); rw [← HE1.out, ← HE2.out] at h9; exact h9.re (by have := colsN_bd b (i + 1) (by have := HAR.out; omega); have := HAR.out; omega) (by have := HAR.out; have := HN.out; rw [List.length_map, List.length_take]; omega)⟩⟩
            · have q2 : decide (126 < rd b (i : Int)) = false := decide_eq_false p2
              have HE1 : Aside0 (colsN b (i + 1) = colsN b i ++ ([32] ++ ([32] ++ hexN [rd b (i : Int)]))) := ⟨by rw [colsN, colN, if_pos (show i = 8 by omega), if_pos (show 0 < i by omega), if_pos (show i < b.length by rw [HN.out]; omega)]⟩
              have HE2 : Aside0 ((b.take (i + 1)).map prtN = (b.take i).map prtN ++ [rd b (i : Int)]) := ⟨by rw [HTK.out, List.map_append, List.map_cons, List.map_nil]; unfold prtN; rw [if_pos ⟨by omega, by omega⟩]⟩
              have HAR : Aside0 (i + (q + 1) = 16 ∧ n ≤ 16 ∧ 1 ≤ n ∧ n ≤ c ∧ i < n) := ⟨hik, h16, h1, hc, cl⟩
              try clear hik
              try clear h16
              try clear h1
              try clear hc
              try clear hi
              try clear c8
              try clear p1
              try clear p2
              try clear ha0
              try clear ha1
              try clear HTK
              go_wp2_with (first
                    | (go_at_call 19; (with_reducible refine (LW.sp1 HL.out ?lLen).mono ?_); (case lLen => omega); rintro e W1 ⟨⟨n1, rfl⟩, h1⟩; have N1 := Aside0.mk h1; clear h1 HL; have HL := N1; clear N1)
                    | (go_at_call 19; (with_reducible refine (LW.sp2 HL.out ?lLen).mono ?_); (case lLen => omega); rintro e W1 ⟨⟨n1, rfl⟩, h1⟩; have N1 := Aside0.mk h1; clear h1 HL; have HL := N1; clear N1)
                    | (go_at_call 8; (with_reducible refine (LW.pair HL.out (rd b (i : Int)) _ _ _ ?lPn ?lPc ?lPr HRD.out.1 HRD.out.2).mono ?_); (case lPn => omega); (case lPc => have := HAR.out; omega); (case lPr => have h5 := HCR.out _ (LW.row HL.out HC.out); rw [HCUT1.out] at h5; exact h5); rintro e W1 ⟨rfl, h1⟩; have N1 := Aside0.mk h1; clear h1 HL; have HL := N1; clear N1)
                    | (go_at_call 19; (with_reducible refine (LW.hx HL.out (rd b (i : Int)) ?lLen).mono ?_); (case lLen => omega); rintro e W1 ⟨⟨n1, rfl⟩, h1⟩; have hx1 := HAT.out _ (LW.row h1 HC.out); have N1 := Aside0.mk h1; clear h1 HL; have HL := N1; clear N1)
                    | (go_at_call 34; (with_reducible refine (LW.text HL.out _ ?lLen).mono ?_); (case lLen => omega); rintro e W1 ⟨rfl, h1⟩; have N1 := Aside0.mk h1; clear h1 HL; have HL := N1; clear N1))
              go_roundg q
              case measure => omega
              case rel => exact ⟨i + 1, by simp, (by have := HAR.out; omega), ⟨by have h9 := HL.out; (try simp only [List.append_assoc] at h9); rw [← HE1.out, ← HE2.out] at h9; exact h9.re (by have := colsN_bd b (i + 1) (by have := HAR.out; omega); have := HAR.out; omega) (by have := HAR.out; have := HN.out; rw [List.length_map, List.length_take]; omega)⟩⟩
        · by_cases c0 : 0 < i
          · have f8 : ((i : Int) == 8) = false := beq_eq_false_iff_ne.mpr (by omega)
            have fg : decide (0 < (i : Int)) = true := decide_eq_true (by omega)
            by_cases p1 : rd b (i : Int) < 32
            · have q1 : decide (rd b (i : Int) < 32) = true := decide_eq_true p1
              have HE1 : Aside0 (colsN b (i + 1) = colsN b i ++ ([32] ++ hexN [rd b (i : Int)])) := ⟨by rw [colsN, colN, if_neg (show ¬ i = 8 by omega), if_pos (show 0 < i by omega), List.nil_append, if_pos (show i < b.length by rw [HN.out]; omega)]⟩
              have HE2 : Aside0 ((b.take (i + 1)).map prtN = (b.take i).map prtN ++ [46]) := ⟨by rw [HTK.out, List.map_append, List.map_cons, List.map_nil]; unfold prtN; rw [if_neg (by omega)]⟩
              have HAR : Aside0 (i + (q + 1) = 16 ∧ n ≤ 16 ∧ 1 ≤ n ∧ n ≤ c ∧ i < n) := ⟨hik, h16, h1, hc, cl⟩
              try clear hik
              try clear h16
              try clear h1
              try clear hc
              try clear hi
              try clear c8
              try clear p1
              try clear p2
              try clear ha0
              try clear ha1
              try clear HTK
              go_wp2_with (first
                    | (go_at_call 19; (with_reducible refine (LW.sp1 HL.out ?lLen).mono ?_); (case lLen => omega); rintro e W1 ⟨⟨n1, rfl⟩, h1⟩; have N1 := Aside0.mk h1; clear h1 HL; have HL := N1; clear N1)
                    | (go_at_call 19; (with_reducible refine (LW.sp2 HL.out ?lLen).mono ?_); (case lLen => omega); rintro e W1 ⟨⟨n1, rfl⟩, h1⟩; have N1 := Aside0.mk h1; clear h1 HL; have HL := N1; clear N1)
                    | (go_at_call 8; (with_reducible refine (LW.pair HL.out (rd b (i : Int)) _ _ _ ?lPn ?lPc ?lPr HRD.out.1 HRD.out.2).mono ?_); (case lPn => omega); (case lPc => have := HAR.out; omega); (case lPr => have h5 := HCR.out _ (LW.row HL.out HC.out); rw [HCUT1.out] at h5; exact h5); rintro e W1 ⟨rfl, h1⟩; have N1 := Aside0.mk h1; clear h1 HL; have HL := N1; clear N1)
                    | (go_at_call 19; (with_reducible refine (LW.hx HL.out (rd b (i : Int)) ?lLen).mono ?_); (case lLen => omega); rintro e W1 ⟨⟨n1, rfl⟩, h1⟩; have hx1 := HAT.out _ (LW.row h1 HC.out); have N1 := Aside0.mk h1; clear h1 HL; have HL := N1; clear N1)
                    | (go_at_call 34; (with_reducible refine (LW.text HL.out _ ?lLen).mono ?_); (case lLen => omega); rintro e W1 ⟨rfl, h1⟩; have N1 := Aside0.mk h1; clear h1 HL; have HL := N1; clear N1))
              go_roundg q
              case measure => omega
              case rel => exact ⟨i + 1, by simp, (by have := HAR.out; omega), ⟨by have h9 := HL.out; (try simp only [List.append_assoc] at h9); rw [← HE1.out, ← HE2.out] at h9; exact h9.re (by have := colsN_bd b (i + 1) (by have := HAR.out; omega); have := HAR.out; omega) (by have := HAR.out; have := HN.out; rw [List.length_map, List.length_take]; omega)⟩⟩
            · have q1 : decide (rd b (i : Int) < 32) = false := decide_eq_false p1
              by_cases p2 : 126 < rd b (i : Int)
              · have q2 : decide (126 < rd b (i : Int)) = true := decide_eq_true p2
                have HE1 : Aside0 (colsN b (i + 1) = colsN b i ++ ([32] ++ hexN [rd b (i : Int)])) := ⟨by rw [colsN, colN, if_neg (show ¬ i = 8 by omega), if_pos (show 0 < i by omega), List.nil_append, if_pos (show i < b.length by rw [HN.out]; omega)]⟩
                have HE2 : Aside0 ((b.take (i + 1)).map prtN = (b.take i).map prtN ++ [46]) := ⟨by rw [HTK.out, List.map_append, List.map_cons, List.map_nil]; unfold prtN; rw [if_neg (by omega)]⟩
                have HAR : Aside0 (i + (q + 1) = 16 ∧ n ≤ 16 ∧ 1 ≤ n ∧ n ≤ c ∧ i < n) := ⟨hik, h16, h1, hc, cl⟩
                try clear hik
                try clear h16
                try clear h1
                try clear hc
                try clear hi
                try clear c8
                try clear p1
                try clear p2
                try clear ha0
                try clear ha1
                try clear HTK
                go_wp2_with (first
                      | (go_at_call 19; (with_reducible refine (LW.sp1 HL.out ?lLen).mono ?_); (case lLen => omega); rintro e W1 ⟨⟨n1, rfl⟩, h1⟩; have N1 := Aside0.mk h1; clear h1 HL; have HL := N1; clear N1)
                      | (go_at_call 19; (with_reducible refine (LW.sp2 HL.out ?lLen).mono ?_); (case lLen => omega); rintro e W1 ⟨⟨n1, rfl⟩, h1⟩; have N1 := Aside0.mk h1; clear h1 HL; have HL := N1; clear N1)
                      | (go_at_call 8; (with_reducible refine (LW.pair HL.out (rd b (i : Int)) _ _ _ ?lPn ?lPc ?lPr HRD.out.1 HRD.out.2).mono ?_); (case lPn => omega); (case lPc => have := HAR.out; omega); (case lPr => have h5 := HCR.out _ (LW.row HL.out HC.out); rw [HCUT1.out] at h5; exact h5); rintro e W1 ⟨rfl, h1⟩; have N1 := Aside0.mk h1; clear h1 HL; have HL := N1; clear N1)
                      | (go_at_call 19; (with_reducible refine (LW.hx HL.out (rd b (i : Int)) ?lLen).mono ?_); (case lLen => omega); rintro e W1 ⟨⟨n1, rfl⟩, h1⟩; have hx1 := HAT.out _ (LW.row h1 HC.out); have N1 := Aside0.mk h1; clear h1 HL; have HL := N1; clear N1)
                      | (go_at_call 34; (with_reducible refine (LW.text HL.out _ ?lLen).mono ?_); (case lLen => omega); rintro e W1 ⟨rfl, h1⟩; have N1 := Aside0.mk h1; clear h1 HL; have HL := N1; clear N1))
                go_roundg q
                case measure => omega
                case rel => exact ⟨i + 1, by simp, (by have := HAR.out; omega), ⟨by have h9 := HL.out; (try simp only [List.append_assoc] at h9); rw [← HE1.out, ← HE2.out] at h9; exact h9.re (by have := colsN_bd b (i + 1) (by have := HAR.out; omega); have := HAR.out; omega) (by have := HAR.out; have := HN.out; rw [List.length_map, List.length_take]; omega)⟩⟩
              · have q2 : decide (126 < rd b (i : Int)) = false := decide_eq_false p2
                have HE1 : Aside0 (colsN b (i + 1) = colsN b i ++ ([32] ++ hexN [rd b (i : Int)])) := ⟨by rw [colsN, colN, if_neg (show ¬ i = 8 by omega), if_pos (show 0 < i by omega), List.nil_append, if_pos (show i < b.length by rw [HN.out]; omega)]⟩
                have HE2 : Aside0 ((b.take (i + 1)).map prtN = (b.take i).map prtN ++ [rd b (i : Int)]) := ⟨by rw [HTK.out, List.map_append, List.map_cons, List.map_nil]; unfold prtN; rw [if_pos ⟨by omega, by omega⟩]⟩
                have HAR : Aside0 (i + (q + 1) = 16 ∧ n ≤ 16 ∧ 1 ≤ n ∧ n ≤ c ∧ i < n) := ⟨hik, h16, h1, hc, cl⟩
                try clear hik
                try clear h16
                try clear h1
                try clear hc
                try clear hi
                try clear c8
                try clear p1
                try clear p2
                try clear ha0
                try clear ha1
                try clear HTK
                go_wp2_with (first
                      | (go_at_call 19; (with_reducible refine (LW.sp1 HL.out ?lLen).mono ?_); (case lLen => omega); rintro e W1 ⟨⟨n1, rfl⟩, h1⟩; have N1 := Aside0.mk h1; clear h1 HL; have HL := N1; clear N1)
                      | (go_at_call 19; (with_reducible refine (LW.sp2 HL.out ?lLen).mono ?_); (case lLen => omega); rintro e W1 ⟨⟨n1, rfl⟩, h1⟩; have N1 := Aside0.mk h1; clear h1 HL; have HL := N1; clear N1)
                      | (go_at_call 8; (with_reducible refine (LW.pair HL.out (rd b (i : Int)) _ _ _ ?lPn ?lPc ?lPr HRD.out.1 HRD.out.2).mono ?_); (case lPn => omega); (case lPc => have := HAR.out; omega); (case lPr => have h5 := HCR.out _ (LW.row HL.out HC.out); rw [HCUT1.out] at h5; exact h5); rintro e W1 ⟨rfl, h1⟩; have N1 := Aside0.mk h1; clear h1 HL; have HL := N1; clear N1)
                      | (go_at_call 19; (with_reducible refine (LW.hx HL.out (rd b (i : Int)) ?lLen).mono ?_); (case lLen => omega); rintro e W1 ⟨⟨n1, rfl⟩, h1⟩; have hx1 := HAT.out _ (LW.row h1 HC.out); have N1 := Aside0.mk h1; clear h1 HL; have HL := N1; clear N1)
                      | (go_at_call 34; (with_reducible refine (LW.text HL.out _ ?lLen).mono ?_); (case lLen => omega); rintro e W1 ⟨rfl, h1⟩; have N1 := Aside0.mk h1; clear h1 HL; have HL := N1; clear N1))
                go_roundg q
                case measure => omega
                case rel => exact ⟨i + 1, by simp, (by have := HAR.out; omega), ⟨by have h9 := HL.out; (try simp only [List.append_assoc] at h9); rw [← HE1.out, ← HE2.out] at h9; exact h9.re (by have := colsN_bd b (i + 1) (by have := HAR.out; omega); have := HAR.out; omega) (by have := HAR.out; have := HN.out; rw [List.length_map, List.length_take]; omega)⟩⟩
          · have f8 : ((i : Int) == 8) = false := beq_eq_false_iff_ne.mpr (by omega)
            have fg : decide (0 < (i : Int)) = false := decide_eq_false (by omega)
            by_cases p1 : rd b (i : Int) < 32
            · have q1 : decide (rd b (i : Int) < 32) = true := decide_eq_true p1
              have HE1 : Aside0 (colsN b (i + 1) = colsN b i ++ (hexN [rd b (i : Int)])) := ⟨by rw [colsN, colN, if_neg (show ¬ i = 8 by omega), if_neg (show ¬ 0 < i by omega), List.nil_append, List.nil_append, if_pos (show i < b.length by rw [HN.out]; omega)]⟩
              have HE2 : Aside0 ((b.take (i + 1)).map prtN = (b.take i).map prtN ++ [46]) := ⟨by rw [HTK.out, List.map_append, List.map_cons, List.map_nil]; unfold prtN; rw [if_neg (by omega)]⟩
              have HAR : Aside0 (i + (q + 1) = 16 ∧ n ≤ 16 ∧ 1 ≤ n ∧ n ≤ c ∧ i < n) := ⟨hik, h16, h1, hc, cl⟩
              try clear hik
              try clear h16
              try clear h1
              try clear hc
              try clear hi
              try clear c8
              try clear p1
              try clear p2
              try clear ha0
              try clear ha1
              try clear HTK
              go_wp2_with (first
                    | (go_at_call 19; (with_reducible refine (LW.sp1 HL.out ?lLen).mono ?_); (case lLen => omega); rintro e W1 ⟨⟨n1, rfl⟩, h1⟩; have N1 := Aside0.mk h1; clear h1 HL; have HL := N1; clear N1)
                    | (go_at_call 19; (with_reducible refine (LW.sp2 HL.out ?lLen).mono ?_); (case lLen => omega); rintro e W1 ⟨⟨n1, rfl⟩, h1⟩; have N1 := Aside0.mk h1; clear h1 HL; have HL := N1; clear N1)
                    | (go_at_call 8; (with_reducible refine (LW.pair HL.out (rd b (i : Int)) _ _ _ ?lPn ?lPc ?lPr HRD.out.1 HRD.out.2).mono ?_); (case lPn => omega); (case lPc => have := HAR.out; omega); (case lPr => have h5 := HCR.out _ (LW.row HL.out HC.out); rw [HCUT1.out] at h5; exact h5); rintro e W1 ⟨rfl, h1⟩; have N1 := Aside0.mk h1; clear h1 HL; have HL := N1; clear N1)
                    | (go_at_call 19; (with_reducible refine (LW.hx HL.out (rd b (i : Int)) ?lLen).mono ?_); (case lLen => omega); rintro e W1 ⟨⟨n1, rfl⟩, h1⟩; have hx1 := HAT.out _ (LW.row h1 HC.out); have N1 := Aside0.mk h1; clear h1 HL; have HL := N1; clear N1)
                    | (go_at_call 34; (with_reducible refine (LW.text HL.out _ ?lLen).mono ?_); (case lLen => omega); rintro e W1 ⟨rfl, h1⟩; have N1 := Aside0.mk h1; clear h1 HL; have HL := N1; clear N1))
              go_roundg q
              case measure => omega
              case rel => exact ⟨i + 1, by simp, (by have := HAR.out; omega), ⟨by have h9 := HL.out; (try simp only [List.append_assoc] at h9); rw [← HE1.out, ← HE2.out] at h9; exact h9.re (by have := colsN_bd b (i + 1) (by have := HAR.out; omega); have := HAR.out; omega) (by have := HAR.out; have := HN.out; rw [List.length_map, List.length_take]; omega)⟩⟩
            · have q1 : decide (rd b (i : Int) < 32) = false := decide_eq_false p1
              by_cases p2 : 126 < rd b (i : Int)
              · have q2 : decide (126 < rd b (i : Int)) = true := decide_eq_true p2
                have HE1 : Aside0 (colsN b (i + 1) = colsN b i ++ (hexN [rd b (i : Int)])) := ⟨by rw [colsN, colN, if_neg (show ¬ i = 8 by omega), if_neg (show ¬ 0 < i by omega), List.nil_append, List.nil_append, if_pos (show i < b.length by rw [HN.out]; omega)]⟩
                have HE2 : Aside0 ((b.take (i + 1)).map prtN = (b.take i).map prtN ++ [46]) := ⟨by rw [HTK.out, List.map_append, List.map_cons, List.map_nil]; unfold prtN; rw [if_neg (by omega)]⟩
                have HAR : Aside0 (i + (q + 1) = 16 ∧ n ≤ 16 ∧ 1 ≤ n ∧ n ≤ c ∧ i < n) := ⟨hik, h16, h1, hc, cl⟩
                try clear hik
                try clear h16
                try clear h1
                try clear hc
                try clear hi
                try clear c8
                try clear p1
                try clear p2
                try clear ha0
                try clear ha1
                try clear HTK
                go_wp2_with (first
                      | (go_at_call 19; (with_reducible refine (LW.sp1 HL.out ?lLen).mono ?_); (case lLen => omega); rintro e W1 ⟨⟨n1, rfl⟩, h1⟩; have N1 := Aside0.mk h1; clear h1 HL; have HL := N1; clear N1)
                      | (go_at_call 19; (with_reducible refine (LW.sp2 HL.out ?lLen).mono ?_); (case lLen => omega); rintro e W1 ⟨⟨n1, rfl⟩, h1⟩; have N1 := Aside0.mk h1; clear h1 HL; have HL := N1; clear N1)
                      | (go_at_call 8; (with_reducible refine (LW.pair HL.out (rd b (i : Int)) _ _ _ ?lPn ?lPc ?lPr HRD.out.1 HRD.out.2).mono ?_); (case lPn => omega); (case lPc => have := HAR.out; omega); (case lPr => have h5 := HCR.out _ (LW.row HL.out HC.out); rw [HCUT1.out] at h5; exact h5); rintro e W1 ⟨rfl, h1⟩; have N1 := Aside0.mk h1; clear h1 HL; have HL := N1; clear N1)
                      | (go_at_call 19; (with_reducible refine (LW.hx HL.out (rd b (i : Int)) ?lLen).mono ?_); (case lLen => omega); rintro e W1 ⟨⟨n1, rfl⟩, h1⟩; have hx1 := HAT.out _ (LW.row h1 HC.out); have N1 := Aside0.mk h1; clear h1 HL; have HL := N1; clear N1)
                      | (go_at_call 34; (with_reducible refine (LW.text HL.out _ ?lLen).mono ?_); (case lLen => omega); rintro e W1 ⟨rfl, h1⟩; have N1 := Aside0.mk h1; clear h1 HL; have HL := N1; clear N1))
                go_roundg q
                case measure => omega
                case rel => exact ⟨i + 1, by simp, (by have := HAR.out; omega), ⟨by have h9 := HL.out; (try simp only [List.append_assoc] at h9); rw [← HE1.out, ← HE2.out] at h9; exact h9.re (by have := colsN_bd b (i + 1) (by have := HAR.out; omega); have := HAR.out; omega) (by have := HAR.out; have := HN.out; rw [List.length_map, List.length_take]; omega)⟩⟩
              · have q2 : decide (126 < rd b (i : Int)) = false := decide_eq_false p2
                have HE1 : Aside0 (colsN b (i + 1) = colsN b i ++ (hexN [rd b (i : Int)])) := ⟨by rw [colsN, colN, if_neg (show ¬ i = 8 by omega), if_neg (show ¬ 0 < i by omega), List.nil_append, List.nil_append, if_pos (show i < b.length by rw [HN.out]; omega)]⟩
                have HE2 : Aside0 ((b.take (i + 1)).map prtN = (b.take i).map prtN ++ [rd b (i : Int)]) := ⟨by rw [HTK.out, List.map_append, List.map_cons, List.map_nil]; unfold prtN; rw [if_pos ⟨by omega, by omega⟩]⟩
                have HAR : Aside0 (i + (q + 1) = 16 ∧ n ≤ 16 ∧ 1 ≤ n ∧ n ≤ c ∧ i < n) := ⟨hik, h16, h1, hc, cl⟩
                try clear hik
                try clear h16
                try clear h1
                try clear hc
                try clear hi
                try clear c8
                try clear p1
                try clear p2
                try clear ha0
                try clear ha1
                try clear HTK
                go_wp2_with (first
                      | (go_at_call 19; (with_reducible refine (LW.sp1 HL.out ?lLen).mono ?_); (case lLen => omega); rintro e W1 ⟨⟨n1, rfl⟩, h1⟩; have N1 := Aside0.mk h1; clear h1 HL; have HL := N1; clear N1)
                      | (go_at_call 19; (with_reducible refine (LW.sp2 HL.out ?lLen).mono ?_); (case lLen => omega); rintro e W1 ⟨⟨n1, rfl⟩, h1⟩; have N1 := Aside0.mk h1; clear h1 HL; have HL := N1; clear N1)
                      | (go_at_call 8; (with_reducible refine (LW.pair HL.out (rd b (i : Int)) _ _ _ ?lPn ?lPc ?lPr HRD.out.1 HRD.out.2).mono ?_); (case lPn => omega); (case lPc => have := HAR.out; omega); (case lPr => have h5 := HCR.out _ (LW.row HL.out HC.out); rw [HCUT1.out] at h5; exact h5); rintro e W1 ⟨rfl, h1⟩; have N1 := Aside0.mk h1; clear h1 HL; have HL := N1; clear N1)
                      | (go_at_call 19; (with_reducible refine (LW.hx HL.out (rd b (i : Int)) ?lLen).mono ?_); (case lLen => omega); rintro e W1 ⟨⟨n1, rfl⟩, h1⟩; have hx1 := HAT.out _ (LW.row h1 HC.out); have N1 := Aside0.mk h1; clear h1 HL; have HL := N1; clear N1)
                      | (go_at_call 34; (with_reducible refine (LW.text HL.out _ ?lLen).mono ?_); (case lLen => omega); rintro e W1 ⟨rfl, h1⟩; have N1 := Aside0.mk h1; clear h1 HL; have HL := N1; clear N1))
                go_roundg q
                case measure => omega
                case rel => exact ⟨i + 1, by simp, (by have := HAR.out; omega), ⟨by have h9 := HL.out; (try simp only [List.append_assoc] at h9); rw [← HE1.out, ← HE2.out] at h9; exact h9.re (by have := colsN_bd b (i + 1) (by have := HAR.out; omega); have := HAR.out; omega) (by have := HAR.out; have := HN.out; rw [List.length_map, List.length_take]; omega)⟩⟩
      · have fl : decide ((n : Int) ≤ (i : Int)) = true := decide_eq_true (by omega)
        have fl2 : decide (n ≤ i) = true := decide_eq_true (by omega)
        have HTK : Aside0 (b.take (i + 1) = b.take i) := ⟨by rw [List.take_of_length_le (by rw [HN.out]; omega), List.take_of_length_le (by rw [HN.out]; omega)]⟩
        by_cases c8 : i = 8
        · have f8 : ((i : Int) == 8) = true := beq_iff_eq.mpr (by omega)
          have fg : decide (0 < (i : Int)) = true := decide_eq_true (by omega)
          have c0 : 0 < i := by omega
          have HE1 : Aside0 (colsN b (i + 1) = colsN b i ++ ([32] ++ ([32] ++ [32, 32]))) := ⟨by rw [colsN, colN, if_pos (show i = 8 by omega), if_pos (show 0 < i by omega), if_neg (show ¬ i < b.length by rw [HN.out]; omega)]⟩
          have HE2 : Aside0 ((b.take (i + 1)).map prtN = (b.take i).map prtN) := ⟨by rw [HTK.out]⟩
          have HAR : Aside0 (i + (q + 1) = 16 ∧ n ≤ 16 ∧ 1 ≤ n ∧ n ≤ c ∧ n ≤ i) := ⟨hik, h16, h1, hc, (by omega)⟩
          try clear hik
          try clear h16
          try clear h1
          try clear hc
          try clear hi
          try clear c8
          try clear p1
          try clear p2
          try clear ha0
          try clear ha1
          try clear HTK
          go_wp2_with (first
                | (go_at_call 19; (with_reducible refine (LW.sp1 HL.out ?lLen).mono ?_); (case lLen => omega); rintro e W1 ⟨⟨n1, rfl⟩, h1⟩; have N1 := Aside0.mk h1; clear h1 HL; have HL := N1; clear N1)
                | (go_at_call 19; (with_reducible refine (LW.sp2 HL.out ?lLen).mono ?_); (case lLen => omega); rintro e W1 ⟨⟨n1, rfl⟩, h1⟩; have N1 := Aside0.mk h1; clear h1 HL; have HL := N1; clear N1)
                | (go_at_call 8; (with_reducible refine (LW.pair HL.out (rd b (i : Int)) _ _ _ ?lPn ?lPc ?lPr HRD.out.1 HRD.out.2).mono ?_); (case lPn => omega); (case lPc => have := HAR.out; omega); (case lPr => have h5 := HCR.out _ (LW.row HL.out HC.out); rw [HCUT1.out] at h5; exact h5); rintro e W1 ⟨rfl, h1⟩; have N1 := Aside0.mk h1; clear h1 HL; have HL := N1; clear N1)
                | (go_at_call 19; (with_reducible refine (LW.hx HL.out (rd b (i : Int)) ?lLen).mono ?_); (case lLen => omega); rintro e W1 ⟨⟨n1, rfl⟩, h1⟩; have hx1 := HAT.out _ (LW.row h1 HC.out); have N1 := Aside0.mk h1; clear h1 HL; have HL := N1; clear N1)
                | (go_at_call 34; (with_reducible refine (LW.text HL.out _ ?lLen).mono ?_); (case lLen => omega); rintro e W1 ⟨rfl, h1⟩; have N1 := Aside0.mk h1; clear h1 HL; have HL := N1; clear N1))
          go_roundg q
          case measure => omega
          case rel => exact ⟨i + 1, by simp, (by have := HAR.out; omega), ⟨by have h9 := HL.out; (try simp only [List.append_assoc] at h9); rw [← HE1.out, ← HE2.out] at h9; exact h9.re (by have := colsN_bd b (i + 1) (by have := HAR.out; omega); have := HAR.out; omega) (by have := HAR.out; have := HN.out; rw [List.length_map, List.length_take]; omega)⟩⟩
        · by_cases c0 : 0 < i
          · have f8 : ((i : Int) == 8) = false := beq_eq_false_iff_ne.mpr (by omega)
            have fg : decide (0 < (i : Int)) = true := decide_eq_true (by omega)
            have HE1 : Aside0 (colsN b (i + 1) = colsN b i ++ ([32] ++ [32, 32])) := ⟨by rw [colsN, colN, if_neg (show ¬ i = 8 by omega), if_pos (show 0 < i by omega), List.nil_append, if_neg (show ¬ i < b.length by rw [HN.out]; omega)]⟩
            have HE2 : Aside0 ((b.take (i + 1)).map prtN = (b.take i).map prtN) := ⟨by rw [HTK.out]⟩
            have HAR : Aside0 (i + (q + 1) = 16 ∧ n ≤ 16 ∧ 1 ≤ n ∧ n ≤ c ∧ n ≤ i) := ⟨hik, h16, h1, hc, (by omega)⟩
            try clear hik
            try clear h16
            try clear h1
            try clear hc
            try clear hi
            try clear c8
            try clear p1
            try clear p2
            try clear ha0
            try clear ha1
            try clear HTK
            go_wp2_with (first
                  | (go_at_call 19; (with_reducible refine (LW.sp1 HL.out ?lLen).mono ?_); (case lLen => omega); rintro e W1 ⟨⟨n1, rfl⟩, h1⟩; have N1 := Aside0.mk h1; clear h1 HL; have HL := N1; clear N1)
                  | (go_at_call 19; (with_reducible refine (LW.sp2 HL.out ?lLen).mono ?_); (case lLen => omega); rintro e W1 ⟨⟨n1, rfl⟩, h1⟩; have N1 := Aside0.mk h1; clear h1 HL; have HL := N1; clear N1)
                  | (go_at_call 8; (with_reducible refine (LW.pair HL.out (rd b (i : Int)) _ _ _ ?lPn ?lPc ?lPr HRD.out.1 HRD.out.2).mono ?_); (case lPn => omega); (case lPc => have := HAR.out; omega); (case lPr => have h5 := HCR.out _ (LW.row HL.out HC.out); rw [HCUT1.out] at h5; exact h5); rintro e W1 ⟨rfl, h1⟩; have N1 := Aside0.mk h1; clear h1 HL; have HL := N1; clear N1)
                  | (go_at_call 19; (with_reducible refine (LW.hx HL.out (rd b (i : Int)) ?lLen).mono ?_); (case lLen => omega); rintro e W1 ⟨⟨n1, rfl⟩, h1⟩; have hx1 := HAT.out _ (LW.row h1 HC.out); have N1 := Aside0.mk h1; clear h1 HL; have HL := N1; clear N1)
                  | (go_at_call 34; (with_reducible refine (LW.text HL.out _ ?lLen).mono ?_); (case lLen => omega); rintro e W1 ⟨rfl, h1⟩; have N1 := Aside0.mk h1; clear h1 HL; have HL := N1; clear N1))
            go_roundg q
            case measure => omega
            case rel => exact ⟨i + 1, by simp, (by have := HAR.out; omega), ⟨by have h9 := HL.out; (try simp only [List.append_assoc] at h9); rw [← HE1.out, ← HE2.out] at h9; exact h9.re (by have := colsN_bd b (i + 1) (by have := HAR.out; omega); have := HAR.out; omega) (by have := HAR.out; have := HN.out; rw [List.length_map, List.length_take]; omega)⟩⟩
          · have f8 : ((i : Int) == 8) = false := beq_eq_false_iff_ne.mpr (by omega)
            have fg : decide (0 < (i : Int)) = false := decide_eq_false (by omega)
            have HE1 : Aside0 (colsN b (i + 1) = colsN b i ++ ([32, 32])) := ⟨by rw [colsN, colN, if_neg (show ¬ i = 8 by omega), if_neg (show ¬ 0 < i by omega), List.nil_append, List.nil_append, if_neg (show ¬ i < b.length by rw [HN.out]; omega)]⟩
            have HE2 : Aside0 ((b.take (i + 1)).map prtN = (b.take i).map prtN) := ⟨by rw [HTK.out]⟩
            have HAR : Aside0 (i + (q + 1) = 16 ∧ n ≤ 16 ∧ 1 ≤ n ∧ n ≤ c ∧ n ≤ i) := ⟨hik, h16, h1, hc, (by omega)⟩
            try clear hik
            try clear h16
            try clear h1
            try clear hc
            try clear hi
            try clear c8
            try clear p1
            try clear p2
            try clear ha0
            try clear ha1
            try clear HTK
            go_wp2_with (first
                  | (go_at_call 19; (with_reducible refine (LW.sp1 HL.out ?lLen).mono ?_); (case lLen => omega); rintro e W1 ⟨⟨n1, rfl⟩, h1⟩; have N1 := Aside0.mk h1; clear h1 HL; have HL := N1; clear N1)
                  | (go_at_call 19; (with_reducible refine (LW.sp2 HL.out ?lLen).mono ?_); (case lLen => omega); rintro e W1 ⟨⟨n1, rfl⟩, h1⟩; have N1 := Aside0.mk h1; clear h1 HL; have HL := N1; clear N1)
                  | (go_at_call 8; (with_reducible refine (LW.pair HL.out (rd b (i : Int)) _ _ _ ?lPn ?lPc ?lPr HRD.out.1 HRD.out.2).mono ?_); (case lPn => omega); (case lPc => have := HAR.out; omega); (case lPr => have h5 := HCR.out _ (LW.row HL.out HC.out); rw [HCUT1.out] at h5; exact h5); rintro e W1 ⟨rfl, h1⟩; have N1 := Aside0.mk h1; clear h1 HL; have HL := N1; clear N1)
                  | (go_at_call 19; (with_reducible refine (LW.hx HL.out (rd b (i : Int)) ?lLen).mono ?_); (case lLen => omega); rintro e W1 ⟨⟨n1, rfl⟩, h1⟩; have hx1 := HAT.out _ (LW.row h1 HC.out); have N1 := Aside0.mk h1; clear h1 HL; have HL := N1; clear N1)
                  | (go_at_call 34; (with_reducible refine (LW.text HL.out _ ?lLen).mono ?_); (case lLen => omega); rintro e W1 ⟨rfl, h1⟩; have N1 := Aside0.mk h1; clear h1 HL; have HL := N1; clear N1))
            go_roundg q
            case measure => omega
            case rel => exact ⟨i + 1, by simp, (by have := HAR.out; omega), ⟨by have h9 := HL.out; (try simp only [List.append_assoc] at h9); rw [← HE1.out, ← HE2.out] at h9; exact h9.re (by have := colsN_bd b (i + 1) (by have := HAR.out; omega); have := HAR.out; omega) (by have := HAR.out; have := HN.out; rw [List.length_map, List.length_take]; omega)⟩⟩
    · have hi2 : i = 16 := by omega
      subst hi2
      have f0 : decide (((16 : Nat) : Int) < 16) = false := decide_eq_false (by omega)
      have eT : b.take 16 = b := List.take_of_length_le (by rw [HN.out]; exact h16)
      rw [eT] at HL
      obtain ⟨s1, hs1⟩ : ∃ s, strOfNums (hexN [a / 256 % 256, a % 256]) = s := ⟨_, rfl⟩
      obtain ⟨s2, hs2⟩ : ∃ s, strOfNums (colsN b 16) = s := ⟨_, rfl⟩
      obtain ⟨s3, hs3⟩ : ∃ s, strOfNums (b.map prtN) = s := ⟨_, rfl⟩
      have z1 : s1.size = 4 := by rw [← hs1, strOfNums_size, hexN_len]; rfl
      have z2 : s2.size = 48 := by rw [← hs2, strOfNums_size, colsN_len]
      have z3 : s3.size = n := by rw [← hs3, strOfNums_size, List.length_map]; exact HN.out
      have HS1 := Aside0.mk hs1
      have HS2 := Aside0.mk hs2
      have HS3 := Aside0.mk hs3
      have HP : Aside0 ((0 ≤ a / 256 % 256 ∧ a / 256 % 256 ≤ 255) ∧ (0 ≤ a % 256 ∧ a % 256 ≤ 255)) := ⟨by omega⟩
      have HNE : Aside0 (colsN b 16 ≠ [] ∧ b.map prtN ≠ []) := ⟨by
        refine ⟨fun e => ?_, fun e => ?_⟩
        · have h5 := colsN_len b
          rw [e] at h5
          simp at h5
        · have h5 : (b.map prtN).length = 0 := by rw [e]; rfl
          rw [List.length_map, HN.out] at h5
          omega⟩
      have HFIN : Aside0 (s1 ++ (⟨#[32, 32]⟩ : ByteArray) ++ s2 ++ (⟨#[32, 32]⟩ : ByteArray) ++ s3 ++ (⟨#[10]⟩ : ByteArray) = strOfNums (lineN a b)) := ⟨by rw [← hs1, ← hs2, ← hs3, show (⟨#[32, 32]⟩ : ByteArray) = strOfNums [32, 32] from rfl, show (⟨#[10]⟩ : ByteArray) = strOfNums [10] from rfl, sn_app, sn_app, sn_app, sn_app, sn_app]; rfl⟩
      clear hs1 hs2 hs3 eT hik hi ha0 ha1
      go_wp2_with (first
        | (go_at_call 8; (with_reducible refine (LW.addr HL.out _ _ HP.out.1 HP.out.2 s1 HS1.out).mono ?_); rintro e W1 ⟨rfl, h1⟩; have N1 := Aside0.mk h1; clear h1 HL; have HL := N1; clear N1)
        | (go_at_call 21; (with_reducible refine (LW.told' HL.out (colsN_isB _ _) HNE.out.1 s2 HS2.out).mono ?_); rintro e W1 ⟨rfl, h1⟩; have HT := Aside0.mk h1; clear h1)
        | (go_at_call 21; (with_reducible refine (TW.told' HT.out (prtN_isB _) HNE.out.2 s3 HS3.out).mono ?_); rintro e W2 ⟨rfl, h1⟩; have HE := Aside0.mk h1; clear h1))
      go_ret
      exact ⟨by rw [HFIN.out]; rfl, by rw [HBB.out]; exact HE.out⟩
end Go.Proofs.YtlilcbpcjmcfbaaDoor.Pure
