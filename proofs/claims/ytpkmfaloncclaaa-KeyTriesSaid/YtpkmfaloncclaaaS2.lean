/- The methods of a key's session, walked: nonces, closed bodies, tags, tickets. Conditions: as each theorem says. -/
import Derived.Test.YtpkmfaloncclaaaS1
import Derived.Test.YtpkmfaloncclaaaKx1
import Derived.Test.YtpkmfaloncclaaaKx2
import Derived.Test.YtpkmfaloncclaaaKx3
import Derived.Test.YtpkmfaloncclaaaKx4
import Derived.Test.YtpkmfaloncclaaaKx8
import Derived.BigRegion
import Derived.StillTailTactics
import Derived.Lib.SlBytesConst
import Derived.Laws.CopyOwn
import Derived.Lib.BytesEntry
import Derived.Lib.SliceRun
import Derived.Outline
namespace Go.Proofs.Ytpkmfaloncclaaa.T
open Go Go.RowKit Go.Shelf Go.Proofs.Ytpkmfaloncclaaa.K Go.Proofs.Ytpkmfaloncclaaa.Pure Go.Proofs.YtpkmfaloncclaaaW.PrintWords Go.Proofs.YtpkmfaloncclaaaW.PrintLast Go.Proofs.YtpkmfaloncclaaaW.PrintMore Hand
attribute [local go_sem] Oper.semAt_some max2_int min2_int max_two min_two max_three min_three max_four min_four
set_option linter.unusedVariables false
theorem R_at {e base m c : Nat} {w : World} {ok : Nat → Prop} {A : Option Addr} {xs : List Int} (h : Kd.R (Kd.int .u8) e w base ok (.slice A m c) xs) : Kd.C (Kd.int .u8) w A m xs ∧ m ≤ c := by
  obtain ⟨h1, h2, h3⟩ := Kd.R_reads' h
  rw [h1]
  exact ⟨h3, by rw [← h1]; exact h2⟩
theorem R_addr {e base m c : Nat} {w : World} {ok : Nat → Prop} {A : Option Addr} {xs : List Int} (h : Kd.R (Kd.int .u8) e w base ok (.slice A m c) xs) (h0 : 0 < xs.length) : ∃ g, A = some ⟨g, 0, none⟩ ∧ base ≤ g := by
  have ho := Kd.own_of_R (enc := Value.int .u8) (h1 := fun _ => rfl) h
  rcases ho.2 with ⟨hn, _⟩ | ⟨g, cap, cur, hvg, hbg, _⟩
  · omega
  · cases hvg
    exact ⟨g, rfl, hbg⟩
/-- A stream that becomes a closed body, byte by byte. -/
def appN (b st : List Int) (i : Nat) : List Int := xorL (b.take i) (st.take i) ++ st.drop i
theorem appN_zero (b st : List Int) : appN b st 0 = st := by simp [appN, xorL]
theorem xorL_snoc : ∀ (x y : List Int) (a b : Int), x.length = y.length → xorL (x ++ [a]) (y ++ [b]) = xorL x y ++ [xr a b]
  | [], [], _, _, _ => rfl
  | [], _ :: _, _, _, h => by simp at h
  | _ :: _, [], _, _, h => by simp at h
  | u :: x, v :: y, a, b, h => by
    rw [List.cons_append, List.cons_append, xorL, xorL, List.cons_append, xorL_snoc x y a b (by simpa using h)]
theorem appN_length (b st : List Int) (h : b.length = st.length) (i : Nat) (hi : i ≤ st.length) : (appN b st i).length = st.length := by
  unfold appN
  rw [List.length_append, xorL_length _ _ (by rw [List.length_take, List.length_take]; omega), List.length_take, List.length_drop]; omega
theorem appN_at {b st : List Int} (h : b.length = st.length) {i : Nat} (hi : i < st.length) : (appN b st i).getD i 0 = st.getD i 0 := by
  unfold appN
  have hl : (xorL (b.take i) (st.take i)).length = i := by rw [xorL_length _ _ (by rw [List.length_take, List.length_take]; omega), List.length_take]; omega
  rw [List.getD_eq_getElem?_getD, List.getD_eq_getElem?_getD, List.getElem?_append_right (by omega), hl, Nat.sub_self, List.getElem?_drop, Nat.add_zero]
theorem appN_step {b st : List Int} (h : b.length = st.length) {i : Nat} (hi : i < st.length) : (appN b st i).set i (xr (st.getD i 0) (b.getD i 0)) = appN b st (i + 1) := by
  have hib : i < b.length := by omega
  have hl : (xorL (b.take i) (st.take i)).length = i := by rw [xorL_length _ _ (by rw [List.length_take, List.length_take]; omega), List.length_take]; omega
  unfold appN
  rw [List.take_succ_eq_append_getElem hib, List.take_succ_eq_append_getElem hi, xorL_snoc _ _ _ _ (by rw [List.length_take, List.length_take]; omega), List.drop_eq_getElem_cons hi, List.set_append_right _ _ (by omega), hl, Nat.sub_self, List.set_cons_zero, List.append_assoc, List.singleton_append, xr_comm]
  simp [List.getD_eq_getElem?_getD, hi, hib]
theorem appN_all {b st : List Int} (h : b.length = st.length) : appN b st st.length = xorL b st := by
  unfold appN
  rw [List.take_of_length_le (by omega), List.take_of_length_le (by omega), List.drop_of_length_le (by omega), List.append_nil]
theorem put4h.calls {w0 W : World} {u : Value} {xs : List Int} (v : Int) (hl : xs.length ≤ 100000) (ho : Kd.R (Kd.int .u8) 5 W w0.heap.size (fun _ => True) u xs) (hb : Below w0.heap.size w0 W) :
    Calls Try.prog 54 #[u, .int .u64 v, .int .i64 4, .bool false] W fun e w' => ∃ v0_ : Value, e = .returned v0_ ∧ Kd.R (Kd.int .u8) 5 w' w0.heap.size (fun _ => True) v0_ (xs ++ be4 v) ∧ Below w0.heap.size w0 w' :=
  (wide_Put.calls 5 (fun _ => True) u xs v 4 false _ w0 W hb ho (put_high4 v xs hl)).mono fun e w' ⟨v0, he, ho, hb, _⟩ => ⟨v0, he, Kd.R_mono ho (fun _ _ => trivial), hb⟩
theorem made_zeros8 : madeCells #[Value.int .u8 0] 8 = (nums .u8 (List.replicate 8 0)).toArray := by kernel_rfl
theorem make8 (W : World) : (Instr.makeSlice 22 (.int .i64 8) (.int .i64 8)).run Try.prog W = .ok (.slice (some ⟨W.heap.size, 0, none⟩) 8 8) (W.alloc (.cells (nums .u8 (List.replicate 8 0)).toArray 5)) :=
  print_make 22 5 .u8 1 Try.underlying22 info5 (by decide) 8 (by decide) W |>.trans (by rw [made_zeros8])
set_option maxHeartbeats 8000000 in
set_option maxRecDepth 100000 in
theorem nonce.calls (A : Option Addr) (c m : Nat) (n : Int) (w : World) (hn : 0 ≤ n ∧ n < 4294967296) :
    Calls Try.prog 61 #[.agg #[.slice A m c], .int .i64 n] w fun e w' => ∃ (A1 : Option Addr) (c1 : Nat), e = .returned (.slice A1 12 c1) ∧ Kd.R (Kd.int .u8) 5 w' w.heap.size (fun _ => True) (.slice A1 12 c1) (nonceOf n) ∧ Below w.heap.size w w' := by
  have hmk := make8
  have HSZ : Aside0 ((w.alloc (.cells #[.slice A m c] 69)).heap.size = w.heap.size + 1) := ⟨by simp⟩
  have e1 : IntKind.u64.wrap n = n := by rw [IntKind.wrap_u64]; exact Int.emod_eq_of_lt hn.1 (by omega)
  have e2 : n % 18446744073709551616 = n := Int.emod_eq_of_lt hn.1 (by omega)
  clear hn
  go_enter Try.func61, Try.ntmps61
  go_wp2_with (go_at_call 54; (with_reducible refine (put4h.calls (w0 := w) (xs := List.replicate 8 0) n (by decide) ?ho ?hb).mono ?_); (case ho => have h0 := lit_R (w.alloc (.cells #[.slice A m c] 69)) w.heap.size (List.replicate 8 0) (by simp) (by decide); rw [HSZ.out] at h0; exact h0); (case hb => exact below_alloc (below_alloc (Below.refl _ _) _) _); rintro e w2 ⟨v2, rfl, ho, hb⟩; have HO := Aside0.mk ho; have HB := Aside0.mk hb; clear ho hb)
  go_ret
  obtain ⟨A2, c2, e2⟩ := Kd.R_slice HO.out
  subst e2
  exact ⟨A2, c2, rfl, HO.out, HB.out⟩
theorem stream.callsR (A0 : Option Addr) (c0 : Nat) (key : List Int) (a : Int) (A2 : Option Addr) (c2 : Nat) (l2 : List Int) (n : Int) (m : Nat) (w : World) (hk : ByteL key) (hl : key.length = 32) (hb2 : ByteL l2) (hl2 : l2.length = 12) (ha : 0 ≤ a ∧ a ≤ 1) (hn : n = (m : Int) ∧ m ≤ 4000) (hr0 : Kd.C (Kd.int .u8) w A0 32 key) (hc0 : 32 ≤ c0) (hr2 : Kd.C (Kd.int .u8) w A2 12 l2) (hc2 : 12 ≤ c2) :
    Calls Try.prog 10 #[.slice A0 32 c0, .int .i64 a, .slice A2 12 c2, .int .i64 n] w fun e w' => ∃ (A9 : Option Addr) (c9 co : Nat), e = .returned (.tuple #[.slice A9 m c9, .int .i64 0]) ∧ m ≤ c9 ∧ Kd.R (Kd.int .u8) 5 w' w.heap.size (fun _ => True) (.slice A9 m co) (streamOf key a l2 n) ∧ Below w.heap.size w w' := by
  obtain ⟨⟨k, h⟩, _⟩ := stream_at hk hl hb2 hl2 (n := n) ha (by omega)
  have hm : (streamOf key a l2 n).length = m := by have := streamOf_length key a l2 (n := n) (by omega); omega
  have h2 := key_Stream.callsR k A0 c0 key a A2 c2 l2 n _ _ w (by rw [hl]; exact hr0) (by rw [hl]; exact hc0) (by rw [hl2]; exact hr2) (by rw [hl2]; exact hc2) h
  rw [hl, hl2, hm] at h2
  exact h2
set_option maxHeartbeats 8000000 in
set_option maxRecDepth 100000 in
theorem ktag.calls (A : Option Addr) (c : Nat) (key : List Int) (n : Int) (A2 : Option Addr) (c2 m2 : Nat) (l2 : List Int) (w : World) (hn : 0 ≤ n ∧ n < 4294967296) (hk : ByteL key) (hl : key.length = 32) (hb2 : ByteL l2) (hl2 : l2.length = m2) (hr : Kd.C (Kd.int .u8) w A 32 key) (hc : 32 ≤ c) (hr2 : Kd.C (Kd.int .u8) w A2 m2 l2) (hc2 : m2 ≤ c2) :
    Calls Try.prog 45 #[.agg #[.slice A 32 c], .int .i64 n, .slice A2 m2 c2] w fun e w' => ∃ (A1 : Option Addr) (c1 : Nat), e = .returned (.slice A1 8 c1) ∧ Kd.R (Kd.int .u8) 5 w' w.heap.size (fun _ => True) (.slice A1 8 c1) (sealOf key n l2) ∧ Below w.heap.size w w' := by
  have HN := Aside0.mk hn
  have HK := Aside0.mk hk
  have HL := Aside0.mk hl
  have HY2 := Aside0.mk hb2
  have HL2 := Aside0.mk hl2
  have HR := Aside0.mk hr
  have HC := Aside0.mk hc
  have HR2 := Aside0.mk hr2
  have HC2 := Aside0.mk hc2
  clear hn hk hl hb2 hl2 hr hc hr2 hc2
  go_enter Try.func45, Try.ntmps45
  go_wp2
  obtain ⟨W0, hW0⟩ : ∃ W0, w.alloc (.cells #[.slice A 32 c] 69) = W0 := ⟨_, rfl⟩
  rw [hW0]
  have HB0 : Aside0 (Below w.heap.size w W0) := ⟨by rw [← hW0]; exact below_alloc (Below.refl _ _) _⟩
  have HK0 : Aside0 (W0.cell? ⟨w.heap.size, 0, none⟩ = some (.slice A 32 c)) := ⟨by rw [← hW0]; exact blk_cell (heap_alloc_new w _) 0⟩
  clear hW0
  have H01 : Aside0 ((0 : Int) ≤ 0 ∧ (0 : Int) ≤ 1) := ⟨by decide⟩
  have H16 : Aside0 ((16 : Int) = ((16 : Nat) : Int) ∧ 16 ≤ 4000) := ⟨by decide⟩
  go_region_held3 (fun w' => w'.cell? ⟨w.heap.size, 0, none⟩ = some (.slice A 32 c)) (first | exact pw_cell_below HB2.out HK0.out | exact pw_cell_below HB1.out HK0.out | exact HK0.out) (first
    | (go_at_call 61; (with_reducible refine (nonce.calls A c 32 n _ HN.out).mono ?_); rintro e w1 ⟨A1, c1, rfl, ho, hb⟩; have HO1 := Aside0.mk ho; have HB1 : Aside0 (Below W0.heap.size W0 w1) := ⟨(below_drew1 (Below.refl _ _)).trans hb⟩; clear ho hb)
    | (go_at_call 10; (with_reducible refine (stream.callsR A c key 0 A1 c1 (nonceOf n) 16 16 _ HK.out HL.out (nonceOf_byte n) (nonceOf_length n) H01.out H16.out (Kd.C_below (Kd.C_below HR.out HB0.out) HB1.out) HC.out (R_at HO1.out).1 (R_at HO1.out).2).mono ?_); rintro e w2 ⟨A9, c9, co, rfl, hl, ho, hb⟩; have HL9 := Aside0.mk hl; have HO2 := Aside0.mk ho; have HB2 := Aside0.mk (HB1.out.trans (hb.mono HB1.out.size)); clear hl ho hb))
  have hT := tag_is (l0 := streamOf key 0 (nonceOf n) 16) (l1 := l2) (by have h := streamOf_length key 0 (nonceOf n) (n := 16) (by decide); omega) (streamOf_byte _ _ _ _) HY2.out
  have HT := Aside0.mk hT
  have HLS : Aside0 ((streamOf key 0 (nonceOf n) 16).length = 16) := ⟨by have h := streamOf_length key 0 (nonceOf n) (n := 16) (by decide); omega⟩
  clear hT
  have HBW : Aside0 (Below w.heap.size w w2) := ⟨HB0.out.trans (HB2.out.mono HB0.out.size)⟩
  all_goals go_wp2_with (go_at_call 37; (with_reducible refine (key_tag.callsm A9 _ 16 (streamOf key 0 (nonceOf n) 16) _ _ m2 l2 _ _ HLS.out HL2.out (R_at HO2.out).1 HL9.out (Kd.C_below HR2.out HBW.out) HC2.out HT.out).mono ?_); rintro e w3 ⟨v3, rfl, ho, hb⟩; have HO3 := Aside0.mk ho; have HB3 := Aside0.mk (HBW.out.trans (hb.mono HBW.out.size)); clear ho hb)
  go_ret
  obtain ⟨A3, c3, e3⟩ := Kd.R_slice HO3.out
  rw [tagOf_length] at e3
  subst e3
  exact ⟨A3, c3, rfl, Kd.R_lower HO3.out HBW.out.size, HB3.out⟩
set_option maxHeartbeats 8000000 in
set_option maxRecDepth 100000 in
theorem apply.callsR (A : Option Addr) (c : Nat) (key : List Int) (n : Int) (A2 : Option Addr) (c2 m2 : Nat) (l2 : List Int) (w : World) (hn : 0 ≤ n ∧ n < 4294967296) (hk : ByteL key) (hl : key.length = 32) (hb2 : ByteL l2) (hl2 : l2.length = m2) (hm2 : m2 ≤ 4000) (hr : Kd.C (Kd.int .u8) w A 32 key) (hc : 32 ≤ c) (hr2 : Kd.C (Kd.int .u8) w A2 m2 l2) (hc2 : m2 ≤ c2) :
    Calls Try.prog 44 #[.agg #[.slice A 32 c], .int .i64 n, .slice A2 m2 c2] w fun e w' => ∃ (A1 : Option Addr) (c1 co : Nat), e = .returned (.slice A1 m2 c1) ∧ m2 ≤ c1 ∧ Kd.R (Kd.int .u8) 5 w' w.heap.size (fun _ => True) (.slice A1 m2 co) (appOf key n l2) ∧ Below w.heap.size w w' := by
  have HN := Aside0.mk hn
  have HK := Aside0.mk hk
  have HL := Aside0.mk hl
  have HY2 := Aside0.mk hb2
  have HL2 := Aside0.mk hl2
  have HR := Aside0.mk hr
  have HC := Aside0.mk hc
  have HR2 := Aside0.mk hr2
  have HC2 := Aside0.mk hc2
  have HM2 := Aside0.mk hm2
  clear hn hk hl hb2 hl2 hr hc hr2 hc2
  go_enter Try.func44, Try.ntmps44
  go_wp2
  obtain ⟨W0, hW0⟩ : ∃ W0, w.alloc (.cells #[.slice A 32 c] 69) = W0 := ⟨_, rfl⟩
  rw [hW0]
  have HB0 : Aside0 (Below w.heap.size w W0) := ⟨by rw [← hW0]; exact below_alloc (Below.refl _ _) _⟩
  have HK0 : Aside0 (W0.cell? ⟨w.heap.size, 0, none⟩ = some (.slice A 32 c)) := ⟨by rw [← hW0]; exact blk_cell (heap_alloc_new w _) 0⟩
  clear hW0
  have H01 : Aside0 ((0 : Int) ≤ 1 ∧ (1 : Int) ≤ 1) := ⟨by decide⟩
  go_region_held3 (fun w' => w'.cell? ⟨w.heap.size, 0, none⟩ = some (.slice A 32 c)) (first | exact pw_cell_below HB2.out HK0.out | exact pw_cell_below HB1.out HK0.out | exact HK0.out) (first
    | (go_at_call 61; (with_reducible refine (nonce.calls A c 32 n _ HN.out).mono ?_); rintro e w1 ⟨A1, c1, rfl, ho, hb⟩; have HO1 := Aside0.mk ho; have HB1 : Aside0 (Below W0.heap.size W0 w1) := ⟨(below_drew1 (Below.refl _ _)).trans hb⟩; clear ho hb)
    | (go_at_call 10; (with_reducible refine (stream.callsR A c key 1 A1 c1 (nonceOf n) m2 m2 _ HK.out HL.out (nonceOf_byte n) (nonceOf_length n) H01.out ⟨rfl, HM2.out⟩ (Kd.C_below (Kd.C_below HR.out HB0.out) HB1.out) HC.out (R_at HO1.out).1 (R_at HO1.out).2).mono ?_); rintro e w2 ⟨A9, c9, co, rfl, hl, ho, hb⟩; have HL9 := Aside0.mk hl; have HO2 := Aside0.mk ho; have HB2 := Aside0.mk (HB1.out.trans (hb.mono HB1.out.size)); clear hl ho hb))
  have HBW : Aside0 (Below w.heap.size w w2) := ⟨HB0.out.trans (HB2.out.mono HB0.out.size)⟩
  obtain ⟨st, hst⟩ : ∃ st, streamOf key 1 (nonceOf n) m2 = st := ⟨_, rfl⟩
  have HST := Aside0.mk hst
  have HLS : Aside0 (st.length = m2) := ⟨by have h := streamOf_length key 1 (nonceOf n) (n := (m2 : Int)) (by omega); rw [← hst]; omega⟩
  have HYS : Aside0 (ByteL st) := ⟨by rw [← hst]; exact streamOf_byte _ _ _ _⟩
  have HOS : Aside0 (Kd.R (Kd.int .u8) 5 w2 w.heap.size (fun _ => True) (.slice A9 m2 co) (appN l2 st 0)) := ⟨by rw [appN_zero, ← hst]; exact Kd.R_lower HO2.out (HB0.out.trans (HB1.out.mono HB0.out.size)).size⟩
  clear hst hm2
  all_goals go_wp2
  go_loopg [24] m2 (fun q s24 wx => ∃ i : Nat, i + q = m2 ∧ s24 = .int .i64 i ∧ Aside0 (Kd.R (Kd.int .u8) 5 wx w.heap.size (fun _ => True) (.slice A9 m2 co) (appN l2 st i)) ∧ Aside0 (Below w.heap.size w wx))
  case atStart => exact ⟨0, by omega, rfl, HOS, HBW⟩
  case round =>
    obtain ⟨i, hig, rfl, HO, HB⟩ := hrel
    cases gk with
    | succ q =>
      have hi : i < m2 := by omega
      have hi2 : (i : Int) < (m2 : Int) := by omega
      have hi0 : (0 : Int) ≤ (i : Int) := by omega
      have hmx : (i : Int) + 1 ≤ 4000 := by have := HM2.out; omega
      obtain ⟨g, hg, hge⟩ := R_addr HO.out (by rw [appN_length _ _ (by rw [HL2.out, HLS.out]) _ (by rw [HLS.out]; omega), HLS.out]; omega)
      subst hg
      have HGE := Aside0.mk hge
      have hcc := Kd.R_celln (enc := Value.int .u8) (h1 := fun _ => rfl) (0 : Int) HO.out (i : Int) hi0 (by omega)
      rw [Int.toNat_natCast] at hcc
      have hs0 : rdOf (0 : Int) (appN l2 st i) (i : Int) = st.getD i 0 := by
        rw [← appN_at (b := l2) (by rw [HL2.out, HLS.out]) (i := i) (by rw [HLS.out]; omega)]
        simp [rdOf]
      rw [hs0] at hcc
      obtain ⟨s, hs⟩ : ∃ s, st.getD i 0 = s := ⟨_, rfl⟩
      obtain ⟨b, hb⟩ : ∃ b, l2.getD i 0 = b := ⟨_, rfl⟩
      have hsb : 0 ≤ s ∧ s ≤ 255 := by rw [← hs, List.getD_eq_getElem?_getD, List.getElem?_eq_getElem (by rw [HLS.out]; exact hi)]; exact HYS.out _ (List.getElem_mem _)
      have hbb : 0 ≤ b ∧ b ≤ 255 := by rw [← hb, List.getD_eq_getElem?_getD, List.getElem?_eq_getElem (by rw [HL2.out]; exact hi)]; exact HY2.out _ (List.getElem_mem _)
      rw [hs] at hcc
      have k1 := hcc.1
      have f1 := hcc.2
      have x1 : Go.bits .xor .u8 s b = xr s b := xor_u8 hsb.1 hsb.2 hbb.1 hbb.2
      obtain ⟨ad, e, hx⟩ := (Kd.reads_of_C (enc := Value.int .u8) (d := (0 : Int)) (h1 := fun _ => rfl) HR2.out).2.2 (by omega)
      subst e
      have k2 : wr.cell? (ad.add i) = some (.int .u8 b) := by rw [← hb]; exact pw_cell_below HB.out (hx i hi)
      have HX : Aside0 ((appN l2 st i).set i (xr s b) = appN l2 st (i + 1)) := ⟨by rw [← hs, ← hb]; exact appN_step (by rw [HL2.out, HLS.out]) (by rw [HLS.out]; exact hi)⟩
      clear hs0 hs hb hsb hbb hcc hx hge
      have HOX := HO.out
      have hput := Kd.R_putn (enc := Value.int .u8) (h1 := fun _ => rfl) HOX (i : Int) (xr s b)
      rw [Int.toNat_natCast, HX.out] at hput
      have HP := Aside0.mk hput
      have HBP : Aside0 (Below w.heap.size w (wr.setCell ⟨g, i, none⟩ (.int .u8 (xr s b)))) := ⟨below_set HB.out HGE.out⟩
      clear HOX hput
      go_wp2
      clear k1 f1 k2 x1
      go_roundg q
      case measure => omega
      case rel => exact ⟨i + 1, by omega, by first | rfl | simp, HP, HBP⟩
    | zero =>
      obtain rfl : i = m2 := by omega
      go_wp2
      go_ret
      have hA := HO.out
      rw [show appN l2 st i = appOf key n l2 from by have h := appN_all (b := l2) (st := st) (by rw [HL2.out, HLS.out]); rw [HLS.out] at h; rw [h, ← HST.out, ← HL2.out]; rfl] at hA
      exact ⟨_, _, _, rfl, HL9.out, hA, HB.out⟩
theorem apply.calls (A : Option Addr) (c : Nat) (key : List Int) (n : Int) (A2 : Option Addr) (c2 m2 : Nat) (l2 : List Int) (w : World) (hn : 0 ≤ n ∧ n < 4294967296) (hk : ByteL key) (hl : key.length = 32) (hb2 : ByteL l2) (hl2 : l2.length = m2) (hm2 : m2 ≤ 4000) (hr : Kd.C (Kd.int .u8) w A 32 key) (hc : 32 ≤ c) (hr2 : Kd.C (Kd.int .u8) w A2 m2 l2) (hc2 : m2 ≤ c2) :
    Calls Try.prog 44 #[.agg #[.slice A 32 c], .int .i64 n, .slice A2 m2 c2] w fun e w' => ∃ (A1 : Option Addr) (c1 : Nat), e = .returned (.slice A1 m2 c1) ∧ m2 ≤ c1 ∧ Kd.C (Kd.int .u8) w' A1 m2 (appOf key n l2) ∧ Below w.heap.size w w' :=
  (apply.callsR A c key n A2 c2 m2 l2 w hn hk hl hb2 hl2 hm2 hr hc hr2 hc2).mono fun _ _ ⟨A1, c1, _, he, h1, ho, hb⟩ => ⟨A1, c1, he, h1, (R_at ho).1, hb⟩
theorem cuts16 (A : Option Addr) (c : Nat) (key : List Int) (hl : key.length = 32) (hc : 32 ≤ c) : (∀ W : World, (Instr.slice 22 (.slice A 32 c) none (some (.int .i64 16)) none).run Try.prog W = .ok (.slice A 16 c) W) ∧
    ∃ AD : Option Addr, (∀ W : World, (Instr.slice 22 (.slice A 32 c) (some (.int .i64 16)) none none).run Try.prog W = .ok (.slice AD 16 (c - 16)) W) ∧ ∀ w : World, Kd.C (Kd.int .u8) w A 32 key → Kd.C (Kd.int .u8) w A 16 (key.take 16) ∧ Kd.C (Kd.int .u8) w AD 16 (key.drop 16) := by
  obtain ⟨i1, hi1, _, hsz1, _⟩ := info_parts info5
  obtain ⟨hcutT, hT, _⟩ := print_take_of (P := Try.prog) (Value.int .u8) 0 22 5 .i64 Try.underlying22 hi1 hsz1 A c key 16 (by decide) (by rw [hl]; decide) (by rw [hl]; exact hc)
  obtain ⟨AD, hcutD, hD, _⟩ := print_drop_of (P := Try.prog) (Value.int .u8) 0 22 5 .i64 Try.underlying22 hi1 hsz1 A c key 16 (by decide) (by rw [hl]; decide) (by rw [hl]; exact hc)
  have eT : (key.take (16 : Int).toNat).length = 16 := by rw [List.length_take, hl]; rfl
  have eD : (key.drop (16 : Int).toNat).length = 16 := by rw [List.length_drop, hl]; rfl
  rw [eT, hl] at hcutT
  rw [eD, hl] at hcutD
  refine ⟨hcutT, AD, hcutD, fun w h => ?_⟩
  have hr : ReadsOf (Value.int .u8) (0 : Int) w A key.length key := by rw [hl]; exact Kd.reads_of_C h
  have h1 := Kd.C_of_reads (h1 := fun _ => rfl) (hT w hr)
  have h2 := Kd.C_of_reads (h1 := fun _ => rfl) (hD w hr)
  rw [eT] at h1
  rw [eD] at h2
  exact ⟨h1, h2⟩
set_option maxHeartbeats 8000000 in
set_option maxRecDepth 100000 in
theorem kticket.calls (A : Option Addr) (c : Nat) (key : List Int) (n : Int) (w : World) (hn : 0 ≤ n ∧ n < 4294967296) (hk : ByteL key) (hl : key.length = 32) (hr : Kd.C (Kd.int .u8) w A 32 key) (hc : 32 ≤ c) :
    Calls Try.prog 50 #[.agg #[.slice A 32 c], .int .i64 n] w fun e w' => ∃ (A1 : Option Addr) (c1 : Nat), e = .returned (.slice A1 20 c1) ∧ Kd.R (Kd.int .u8) 5 w' w.heap.size (fun _ => True) (.slice A1 20 c1) (tickOf key n) ∧ Below w.heap.size w w' := by
  have HK := Aside0.mk hk
  have HL := Aside0.mk hl
  have HR := Aside0.mk hr
  have HC := Aside0.mk hc
  obtain ⟨cT, AD, cD, hcc⟩ := cuts16 A c key hl hc
  have HCC := Aside0.mk hcc
  have e1 : IntKind.u64.wrap n = n := by rw [IntKind.wrap_u64]; exact Int.emod_eq_of_lt hn.1 (by omega)
  have e2 : n % 18446744073709551616 = n := Int.emod_eq_of_lt hn.1 (by omega)
  have HT1 := Aside0.mk (tag_is (l0 := key.take 16) (l1 := be4 n) (by rw [List.length_take, hl]; decide) (byteL_take hk 16) (be4_byte n))
  have HT2 := Aside0.mk (tag_is (l0 := key.drop 16) (l1 := be4 n ++ tagOf (key.take 16) (be4 n)) (by rw [List.length_drop, hl]) (byteL_drop hk 16) (byteL_append (be4_byte n) (tagOf_byte _ _)))
  have HLT : Aside0 ((key.take 16).length = 16) := ⟨by rw [List.length_take, hl]; decide⟩
  have HLD : Aside0 ((key.drop 16).length = 16) := ⟨by rw [List.length_drop, hl]⟩
  have HLB : Aside0 ((be4 n).length = 4) := ⟨rfl⟩
  have HLC : Aside0 ((be4 n ++ tagOf (key.take 16) (be4 n)).length = 12) := ⟨by rw [List.length_append, tagOf_length]; rfl⟩
  clear hn hk hl hr hc hcc
  go_enter Try.func50, Try.ntmps50
  obtain ⟨W0, hW0⟩ : ∃ W0, w.alloc (.cells #[.slice A 32 c] 69) = W0 := ⟨_, rfl⟩
  have HW0 := Aside0.mk hW0
  have HB0 : Aside0 (Below w.heap.size w W0) := ⟨by rw [← hW0]; exact below_alloc (Below.refl _ _) _⟩
  have HK0 : Aside0 (W0.cell? ⟨w.heap.size, 0, none⟩ = some (.slice A 32 c)) := ⟨by rw [← hW0]; exact blk_cell (heap_alloc_new w _) 0⟩
  have HRW : Aside0 (Kd.C (Kd.int .u8) W0 A 32 key) := ⟨Kd.C_below HR.out HB0.out⟩
  clear hW0
  go_wp2_with (first
    | (go_at_call 54; rw [HW0.out]; (with_reducible refine (put4h.calls (w0 := W0) (xs := []) n (by decide) (Kd.R_nil _ _ _ _ _) (Below.refl _ _)).mono ?_); rintro e w1 ⟨v1, rfl, ho, hb⟩; rw [List.nil_append] at ho; obtain ⟨A1, c1, e1⟩ := Kd.R_slice ho; rw [HLB.out] at e1; subst e1; have HO1 := Aside0.mk ho; have HB1 := Aside0.mk hb; have k1 := pw_cell_below hb HK0.out; clear ho hb)
    | (go_at_call 37; (with_reducible refine (key_tag.callsm AD _ 16 (key.drop 16) _ _ 12 _ _ _ HLD.out HLC.out (HCC.out _ (Kd.C_below HRW.out HB3.out)).2 ?side1 (R_at HO3.out).1 (R_at HO3.out).2 HT2.out).mono ?_); (case side1 => have := HC.out; omega); rintro e w4 ⟨v4, rfl, ho, hb⟩; obtain ⟨A4, c4, e4⟩ := Kd.R_slice ho; rw [tagOf_length] at e4; subst e4; have HO4 := Aside0.mk ho; have HB4x := Aside0.mk hb; have HB4 := Aside0.mk (HB3.out.trans (hb.mono HB3.out.size)); clear ho hb)
    | (go_at_call 37; (with_reducible refine (key_tag.callsm A _ 16 (key.take 16) _ _ 4 _ _ _ HLT.out HLB.out (HCC.out _ (Kd.C_below HRW.out HB1.out)).1 ?side1 (R_at HO1.out).1 (R_at HO1.out).2 HT1.out).mono ?_); (case side1 => have := HC.out; omega); rintro e w2 ⟨v2, rfl, ho, hb⟩; obtain ⟨A2, c2, e2⟩ := Kd.R_slice ho; rw [tagOf_length] at e2; subst e2; have HO2 := Aside0.mk ho; have HB2x := Aside0.mk hb; have HB2 := Aside0.mk (HB1.out.trans (hb.mono HB1.out.size)); clear ho hb)
    | ((with_reducible refine gate_builtin (b := .append) (xs := #[.tmp 9, .tmp 14]) rfl ?_); at_builtin; refine Kd.R_append_rows (Kd.int .u8) (w0 := W0) W0.heap.size rfl (.tmp 9) (.tmp 14) 22 5 (.int .u8 0) 1 rfl Try.underlying22 info5 rfl (by decide) (by omega) _ (be4 n) (tagOf (key.take 16) (be4 n)) _ 8 _ (fun _ => True) (fun _ => False) rfl rfl (Kd.R_below HO1.out HB2x.out) (R_at HO2.out).1 (fun _ _ h => h) (fun _ h => h.elim) (fun _ _ => trivial) HB2.out ?aS ?aL ?_; (case aS => exact (HB2.out).size); (case aL => rw [HLB.out]; decide);  intro v3 w3 ho hb _ _; obtain ⟨A3, c3, e3⟩ := Kd.R_slice ho; rw [HLC.out] at e3; subst e3; have HO3 := Aside0.mk ho; have HB3 := Aside0.mk hb; have k3 := pw_cell_below hb HK0.out; clear ho hb)
    | ((with_reducible refine gate_builtin (b := .append) (xs := #[.tmp 16, .tmp 21]) rfl ?_); at_builtin; refine Kd.R_append_rows (Kd.int .u8) (w0 := W0) W0.heap.size rfl (.tmp 16) (.tmp 21) 22 5 (.int .u8 0) 1 rfl Try.underlying22 info5 rfl (by decide) (by omega) _ (be4 n ++ tagOf (key.take 16) (be4 n)) (tagOf (key.drop 16) (be4 n ++ tagOf (key.take 16) (be4 n))) _ 8 _ (fun _ => True) (fun _ => False) rfl rfl (Kd.R_below HO3.out HB4x.out) (R_at HO4.out).1 (fun _ _ h => h) (fun _ h => h.elim) (fun _ _ => trivial) HB4.out ?aS ?aL ?_; (case aS => exact (HB4.out).size); (case aL => rw [HLC.out]; decide);  intro v5 w5 ho hb _ _; have HO5 := Aside0.mk ho; have HB5 := Aside0.mk hb; clear ho hb))
  go_ret
  obtain ⟨A5, c5, e5⟩ := Kd.R_slice HO5.out
  rw [show (be4 n ++ tagOf (key.take 16) (be4 n) ++ tagOf (key.drop 16) (be4 n ++ tagOf (key.take 16) (be4 n))).length = 20 from tickOf_length key n] at e5
  subst e5
  exact ⟨A5, c5, rfl, Kd.R_lower HO5.out HB0.out.size, HB0.out.trans (HB5.out.mono HB0.out.size)⟩
end Go.Proofs.Ytpkmfaloncclaaa.T
