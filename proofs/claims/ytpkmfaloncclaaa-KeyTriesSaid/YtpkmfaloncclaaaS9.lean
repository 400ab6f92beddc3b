/- The methods of the reference's session, on: Close, Open. Conditions: as each theorem says. -/
import Derived.Test.YtpkmfaloncclaaaS8
namespace Go.Proofs.Ytpkmfaloncclaaa.T
open Go Go.RowKit Go.Shelf Go.Proofs.Ytpkmfaloncclaaa.K Go.Proofs.Ytpkmfaloncclaaa.Pure Go.Proofs.YtpkmfaloncclaaaW.PrintWords Go.Proofs.YtpkmfaloncclaaaW.PrintLast Go.Proofs.YtpkmfaloncclaaaW.PrintMore Hand
attribute [local go_sem] Oper.semAt_some max2_int min2_int max_two min_two max_three min_three max_four min_four
set_option linter.unusedVariables false
set_option maxHeartbeats 8000000 in
set_option maxRecDepth 100000 in
theorem rClose.ok (g : Nat) (A : Option Addr) (c : Nat) (key : List Int) (n kind : Int) (A2 : Option Addr) (c2 m2 : Nat) (l2 : List Int) (W : World) (h : Sess 73 W g A c key n) (hkd : 0 ≤ kind ∧ kind ≤ 255) (hm : m2 ≤ 400) (hn : n < 4294967296) (hl2 : l2.length = m2) (hy2 : ByteL l2) (hr2 : Kd.C (Kd.int .u8) W A2 m2 l2) (hc2 : m2 ≤ c2) :
    Calls Try.prog 28 #[.pointer (some ⟨g, 0, none⟩), .int .i64 kind, .slice A2 m2 c2] W fun e w' => ∃ v, e = .returned (.tuple #[v, .int .i64 0]) ∧ Kd.R (Kd.int .u8) 5 w' W.heap.size (fun _ => True) v (recOf key n kind l2) ∧ Sess 73 w' g A c key (n + 1) ∧ Moved g W w' := by
  have HS := Aside0.mk h
  have k1 := h.c1
  have hn0 := h.num.1
  have hn1 : n + 1 ≤ 4294967296 := by omega
  have HL2 := Aside0.mk hl2
  have HY2 := Aside0.mk hy2
  have HR2 := Aside0.mk hr2
  have HC2 := Aside0.mk hc2
  have HM := Aside0.mk hm
  have HM4 : Aside0 (m2 ≤ 4000) := ⟨by omega⟩
  have HKD := Aside0.mk hkd
  have b1 : decide (kind < 0) = false := decide_eq_false (by omega)
  have b2 : decide (255 < kind) = false := decide_eq_false (by omega)
  have b3 : decide (400 < (m2 : Int)) = false := decide_eq_false (by omega)
  have b4 : decide (400 < m2) = false := decide_eq_false (by omega)
  have b5 : decide (4294967296 ≤ n) = false := decide_eq_false (by omega)
  have b6 : kind % 256 = kind := by omega
  have b7 : IntKind.u8.wrap kind = kind := by rw [IntKind.wrap_u8]; exact b6
  have HH : Aside0 ([kind] ++ be2 (m2 : Int) ++ appOf key n l2 = headOf key n kind l2) := ⟨by unfold headOf; rw [HL2.out]⟩
  have HHL : Aside0 ((headOf key n kind l2).length = m2 + 3) := ⟨by rw [headOf_length, HL2.out]⟩
  have HL3 : Aside0 (([kind] ++ be2 (m2 : Int)).length = 3) := ⟨rfl⟩
  have HYH : Aside0 (ByteL (headOf key n kind l2)) := ⟨headOf_byte key n HKD.out HY2.out⟩
  clear h hkd hm hn hl2 hy2 hr2 hc2
  go_enter Try.func28, Try.ntmps28
  go_wp2_with (first
    | (go_at_call 49; (with_reducible refine (rhigh2.calls _ _).mono ?_); rintro e w3 ⟨A3, c3, rfl, ho, hb⟩; have HLIT := Aside0.mk (Kd.R_below (lit_R W W.heap.size [kind] (Nat.le_refl _) (by simp)) hb); have HO3 := Aside0.mk ho; have HB3 : Aside0 (Below W.heap.size W w3) := ⟨(below_alloc (Below.refl _ _) _).trans (hb.mono (by simp))⟩; clear ho hb)
    | ((with_reducible refine gate_builtin (b := .append) (xs := #[.tmp 25, .tmp 28]) rfl ?_); at_builtin; refine Kd.R_append_rows (Kd.int .u8) (w0 := W) W.heap.size rfl (.tmp 25) (.tmp 28) 22 5 (.int .u8 0) 1 rfl Try.underlying22 info5 rfl (by decide) (by omega) _ [kind] (be2 (m2 : Int)) A3 2 c3 (fun _ => True) (fun _ => False) rfl rfl HLIT.out (R_at HO3.out).1 (fun _ _ h => h) (fun _ h => h.elim) (fun _ _ => trivial) HB3.out ?aS ?aL ?_; (case aS => exact HB3.out.size); (case aL => simp); intro v4 w4 ho hb _ _; have HO4 := Aside0.mk ho; have HB4 := Aside0.mk hb; clear ho hb)
    | (go_at_call 48; (with_reducible refine (rcrypted.calls g A c key n A2 _ m2 l2 _ (HS.out.below HB4.out) HY2.out HL2.out HM4.out (Kd.C_below HR2.out HB4.out) HC2.out).mono ?_); rintro e w5 ⟨A5, c5, rfl, ho, hb⟩; have HO5 := Aside0.mk ho; have HB5x := Aside0.mk hb; have HB5 := Aside0.mk (HB4.out.trans (hb.mono HB4.out.size)); clear ho hb)
    | ((with_reducible refine gate_builtin (b := .append) (xs := #[.tmp 30, .tmp 33]) rfl ?_); at_builtin; refine Kd.R_append_rows (Kd.int .u8) (w0 := W) W.heap.size rfl (.tmp 30) (.tmp 33) 22 5 (.int .u8 0) 1 rfl Try.underlying22 info5 rfl (by decide) (by omega) _ ([kind] ++ be2 (m2 : Int)) (appOf key n l2) A5 m2 c5 (fun _ => True) (fun _ => False) rfl rfl (Kd.R_below HO4.out HB5x.out) (R_at HO5.out).1 (fun _ _ h => h) (fun _ h => h.elim) (fun _ _ => trivial) HB5.out ?aS ?aL ?_; (case aS => exact HB5.out.size); (case aL => rw [HL3.out]; have := HM.out; clear b6 b7; omega); intro v6 w6 ho hb _ _; rw [HH.out] at ho; obtain ⟨A6, c6, e6⟩ := Kd.R_slice ho; rw [HHL.out] at e6; subst e6; have HO6 := Aside0.mk ho; have HB6 := Aside0.mk hb; clear ho hb)
    | (go_at_call 47; (with_reducible refine (rsealed.calls g A c key n A6 c6 (m2 + 3) (headOf key n kind l2) _ (HS.out.below HB6.out) HYH.out HHL.out (R_at HO6.out).1 (R_at HO6.out).2).mono ?_); rintro e w7 ⟨A7, c7, rfl, ho, hb⟩; have HO7 := Aside0.mk ho; have HB7x := Aside0.mk hb; have HB7 := Aside0.mk (HB6.out.trans (hb.mono HB6.out.size)); clear ho hb)
    | ((with_reducible refine gate_builtin (b := .append) (xs := #[.tmp 35, .tmp 38]) rfl ?_); at_builtin; refine Kd.R_append_rows (Kd.int .u8) (w0 := W) W.heap.size rfl (.tmp 35) (.tmp 38) 22 5 (.int .u8 0) 1 rfl Try.underlying22 info5 rfl (by decide) (by omega) _ (headOf key n kind l2) (sealOf key n (headOf key n kind l2)) A7 8 c7 (fun _ => True) (fun _ => False) rfl rfl (Kd.R_below HO6.out HB7x.out) (R_at HO7.out).1 (fun _ _ h => h) (fun _ h => h.elim) (fun _ _ => trivial) HB7.out ?aS ?aL ?_; (case aS => exact HB7.out.size); (case aL => rw [HHL.out]; have := HM.out; clear b6 b7; omega); intro v8 w8 ho hb _ _; have HO8 := Aside0.mk ho; have HB8 := Aside0.mk hb; have HS8 := Aside0.mk (HS.out.below hb); have j1 := HS8.out.c1; have f1 := HS8.out.fz 1; clear ho hb))
  go_ret2
  exact ⟨_, rfl, Kd.R_mono (Kd.R_far (Kd.R_bound HO8.out) (fun k hk => by have h1 := hk.2.1; have h2 := HS.out.lt; show k ≠ g; omega) _) (fun _ _ => trivial), HS8.out.set (by decide) ⟨by omega, by omega⟩, (Moved.of_below HB8.out (Nat.le_of_lt HS.out.lt)).set HS8.out.lt 1 _⟩
set_option maxHeartbeats 8000000 in
set_option maxRecDepth 100000 in
theorem rClose.calls (g : Nat) (A : Option Addr) (c : Nat) (key : List Int) (n kind : Int) (A2 : Option Addr) (c2 m2 : Nat) (l2 : List Int) (W : World) (h : Sess 73 W g A c key n) (hm : m2 ≤ 140737488351232) (hl2 : l2.length = m2) (hy2 : ByteL l2) (hr2 : Kd.C (Kd.int .u8) W A2 m2 l2) (hc2 : m2 ≤ c2) :
    Calls Try.prog 28 #[.pointer (some ⟨g, 0, none⟩), .int .i64 kind, .slice A2 m2 c2] W fun e w' => ∃ v, e = .returned (.tuple #[v, .int .i64 (closeA key n kind l2).1.2]) ∧ Kd.R (Kd.int .u8) 5 w' W.heap.size (fun _ => True) v (closeA key n kind l2).1.1 ∧ Sess 73 w' g A c key (closeA key n kind l2).2 ∧ Moved g W w' := by
  have HS := Aside0.mk h
  have k1 := h.c1
  have hnn := h.num
  unfold closeA
  rw [hl2]
  by_cases q1 : kind < 0
  · have b1 : decide (kind < 0) = true := decide_eq_true q1
    rw [if_pos (Or.inl q1)]
    clear h hl2 hy2 hr2 hc2 hnn
    go_enter Try.func28, Try.ntmps28
    go_wp2
    go_ret2
    exact ⟨_, rfl, Kd.R_nil _ _ _ _ _, HS.out, Moved.refl _ _ (Nat.le_of_lt HS.out.lt)⟩
  have b1 : decide (kind < 0) = false := decide_eq_false q1
  by_cases q2 : 255 < kind
  · have b2 : decide (255 < kind) = true := decide_eq_true q2
    rw [if_pos (Or.inr q2)]
    clear h hl2 hy2 hr2 hc2 hnn
    go_enter Try.func28, Try.ntmps28
    go_wp2
    go_ret2
    exact ⟨_, rfl, Kd.R_nil _ _ _ _ _, HS.out, Moved.refl _ _ (Nat.le_of_lt HS.out.lt)⟩
  have b2 : decide (255 < kind) = false := decide_eq_false q2
  rw [if_neg (by omega)]
  by_cases q3 : 400 < m2
  · have b3 : decide (400 < (m2 : Int)) = true := decide_eq_true (by omega)
    have b4 : decide (400 < m2) = true := decide_eq_true q3
    rw [if_pos q3]
    clear h hl2 hy2 hr2 hc2 hnn
    go_enter Try.func28, Try.ntmps28
    go_wp2
    go_ret2
    exact ⟨_, rfl, Kd.R_nil _ _ _ _ _, HS.out, Moved.refl _ _ (Nat.le_of_lt HS.out.lt)⟩
  have b3 : decide (400 < (m2 : Int)) = false := decide_eq_false (by omega)
  have b4 : decide (400 < m2) = false := decide_eq_false q3
  rw [if_neg q3]
  by_cases q4 : 4294967296 ≤ n
  · have b5 : decide (4294967296 ≤ n) = true := decide_eq_true (by omega)
    rw [if_pos q4]
    clear h hl2 hy2 hr2 hc2 hnn
    go_enter Try.func28, Try.ntmps28
    go_wp2
    go_ret2
    exact ⟨_, rfl, Kd.R_nil _ _ _ _ _, HS.out, Moved.refl _ _ (Nat.le_of_lt HS.out.lt)⟩
  rw [if_neg q4]
  exact rClose.ok g A c key n kind A2 c2 m2 l2 W h ⟨by omega, by omega⟩ (by omega) (by omega) hl2 hy2 hr2 hc2
set_option maxHeartbeats 8000000 in
set_option maxRecDepth 100000 in
theorem rOpen.calls (A0 : Option Addr) (c0 m0 : Nat) (key : List Int) (w : World) (hl : key.length = m0) (hm : m0 ≤ 140737488351232) (hk : ByteL key) (hr : Kd.C (Kd.int .u8) w A0 m0 key) :
    Calls Try.prog 19 #[.slice A0 m0 c0] w (OpenPost 73 w key (openA key)) := by
  have HL := Aside0.mk hl
  have HK := Aside0.mk hk
  have HR := Aside0.mk hr
  by_cases h : m0 = 32
  · have e : openA key = (some 0, 0) := by unfold openA; rw [if_neg (by omega)]
    rw [e]
    subst h
    clear hl hk hr e
    go_enter Try.func19, Try.ntmps19
    go_wp2_with ((with_reducible refine gate_builtin (b := .append) (xs := #[.const (.slice none 0 0), .tmp 7]) rfl ?_); at_builtin; refine Kd.R_append_rows (Kd.int .u8) (w0 := w) w.heap.size rfl (.const (.slice none 0 0)) (.tmp 7) 22 5 (.int .u8 0) 1 rfl Try.underlying22 info5 rfl (by decide) (by omega) _ [] key A0 32 c0 (fun _ => True) (fun _ => False) rfl rfl (Kd.R_nil _ _ _ _ _) HR.out (fun _ _ h => h) (fun _ h => h.elim) (fun _ _ => trivial) (Below.refl _ _) ?aS ?aL ?_; (case aS => exact Nat.le_refl _); (case aL => simp); intro v1 w1 ho hb _ _; rw [List.nil_append] at ho; obtain ⟨A1, c1, e1⟩ := Kd.R_slice ho; rw [HL.out] at e1; subst e1; have HO1 := Aside0.mk ho; have HB1 := Aside0.mk hb; clear ho hb)
    go_ret2
    exact ⟨w1.heap.size, A1, c1, rfl, Sess.alloc HO1.out HL.out HK.out, HB1.out.size, below_alloc HB1.out _⟩
  · have e : openA key = (none, 1) := by unfold openA; rw [if_pos (by omega)]
    rw [e]
    have b1 : ((m0 : Int) == 32) = false := beq_eq_false_iff_ne.2 (by omega)
    have b2 : ((m0 : Int) != 32) = true := bne_iff_ne.2 (by omega)
    clear hl hk hr e
    go_enter Try.func19, Try.ntmps19
    go_wp2
    go_ret2
    exact ⟨rfl, Below.refl _ _⟩
end Go.Proofs.Ytpkmfaloncclaaa.T
