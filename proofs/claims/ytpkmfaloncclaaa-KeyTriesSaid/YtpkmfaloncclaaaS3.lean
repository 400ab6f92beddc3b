/- A key's session as a state, and its methods walked: Number, Ticket, Close, Read, Open, Resume. Conditions: as each theorem says. -/
import Derived.Test.YtpkmfaloncclaaaS2
namespace Go.Proofs.Ytpkmfaloncclaaa.T
open Go Go.RowKit Go.Shelf Go.Proofs.Ytpkmfaloncclaaa.K Go.Proofs.Ytpkmfaloncclaaa.Pure Go.Proofs.YtpkmfaloncclaaaW.PrintWords Go.Proofs.YtpkmfaloncclaaaW.PrintLast Go.Proofs.YtpkmfaloncclaaaW.PrintMore Hand
attribute [local go_sem] Oper.semAt_some max2_int min2_int max_two min_two max_three min_three max_four min_four
set_option linter.unusedVariables false
/-- The bytes of a key, in a block of bytes. -/
def KeyAt (w : World) (A : Option Addr) (key : List Int) : Prop := Kd.C (Kd.int .u8) w A 32 key ∧ ∃ ad, A = some ad ∧ ∃ cs f, w.heap[ad.block]? = some (.cells cs 5 f)
/-- What is so of a session at block g (T: its type). -/
def Sess (T : TypeId) (w : World) (g : Nat) (A : Option Addr) (c : Nat) (key : List Int) (n : Int) : Prop :=
  w.heap[g]? = some (.cells #[.slice A 32 c, .int .i64 n] T (0, 0)) ∧ KeyAt w A key ∧ (32 ≤ c ∧ (0 ≤ n ∧ n ≤ 4294967296) ∧ ByteL key ∧ key.length = 32)
/-- Nothing has changed but at block g, and what is new. -/
def Moved (g : Nat) (w w' : World) : Prop := Below g w w' ∧ KeepBut w w' g none
theorem Moved.refl (g : Nat) (w : World) (h : g ≤ w.heap.size) : Moved g w w := ⟨(Below.refl w.heap.size w).mono h, KeepBut.refl _ _ _⟩
theorem Moved.trans {g : Nat} {w w1 w2 : World} (h : Moved g w w1) (k : Moved g w1 w2) : Moved g w w2 := ⟨h.1.trans k.1, h.2.trans k.2 (.inl rfl)⟩
theorem Moved.of_below {g : Nat} {w w1 : World} (h : Below w.heap.size w w1) (hg : g ≤ w.heap.size) : Moved g w w1 := ⟨h.mono hg, KeepBut.of_below h g none⟩
theorem Moved.below {g : Nat} {w w1 w2 : World} (h : Moved g w w1) (k : Below w1.heap.size w1 w2) (hg : g ≤ w1.heap.size) : Moved g w w2 := h.trans (Moved.of_below k hg)
theorem Moved.set {g : Nat} {w w1 : World} (h : Moved g w w1) (hg : g < w1.heap.size) (j : Nat) (v : Value) : Moved g w (w1.setCell ⟨g, j, none⟩ v) :=
  ⟨h.1.trans (((Below.refl w1.heap.size w1).mono (Nat.le_of_lt hg)).setCell (Nat.le_refl _) _), h.2.set_ j v⟩
theorem Moved.drewN {g : Nat} {w w1 : World} (h : Moved g w w1) (n : Nat) : Moved g w (w1.drewN n) := ⟨pw_below_drewN h.1 n, keep_drewN h.2 n⟩
theorem Moved.drew {g : Nat} {w w1 : World} (h : Moved g w w1) : Moved g w w1.drew := ⟨below_drew h.1, keep_drew h.2⟩
/-- Ahead of all: what a call has made and moved. -/
theorem Moved.all {g : Nat} {w0 w w1 : World} (hb : Below w0.heap.size w0 w) (h : Moved g w w1) (hg : w0.heap.size ≤ g) : Below w0.heap.size w0 w1 := hb.trans (h.1.mono hg)
theorem KeyAt.below {w w1 : World} {A : Option Addr} {key : List Int} (h : KeyAt w A key) (hb : Below w.heap.size w w1) : KeyAt w1 A key := by
  obtain ⟨hc, ad, e, cs, f, hk⟩ := h
  exact ⟨Kd.C_below hc hb, ad, e, cs, f, blk_below hk hb⟩
theorem KeyAt.keep {w w1 : World} {A : Option Addr} {key : List Int} {g : Nat} {T : TypeId} {cs : Array Value} {f : Nat × Nat} (h : KeyAt w A key) (hk : KeepBut w w1 g none) (hg : w.heap[g]? = some (.cells cs T f)) (hT : T ≠ 5) : KeyAt w1 A key := by
  obtain ⟨hc, ad, e, cs2, f2, hb⟩ := h
  have hne : ad.block ≠ g := fun h2 => by
    rw [h2, hg] at hb
    have hb := Option.some.inj hb
    injection hb with h3 h4 h5
    exact hT h4
  refine ⟨Kd.C_keep (0 : Int) hc hk (fun ad2 e2 _ => ?_), ad, e, cs2, f2, (hk.blk hb hne (by simp))⟩
  rw [e] at e2
  cases e2
  exact hne
section
variable {T : TypeId} {w w1 : World} {g : Nat} {A : Option Addr} {c : Nat} {key : List Int} {n : Int}
theorem Sess.lt (h : Sess T w g A c key n) : g < w.heap.size := blk_lt h.1
theorem Sess.c0 (h : Sess T w g A c key n) : w.cell? ⟨g, 0, none⟩ = some (.slice A 32 c) := blk_cell h.1 0
theorem Sess.c1 (h : Sess T w g A c key n) : w.cell? ⟨g, 1, none⟩ = some (.int .i64 n) := blk_cell h.1 1
theorem Sess.fz (h : Sess T w g A c key n) (i : Nat) : w.frozen? ⟨g, i, none⟩ = false := blk_frozen h.1 i
theorem Sess.kc (h : Sess T w g A c key n) : Kd.C (Kd.int .u8) w A 32 key := h.2.1.1
theorem Sess.cap (h : Sess T w g A c key n) : 32 ≤ c := h.2.2.1
theorem Sess.num (h : Sess T w g A c key n) : 0 ≤ n ∧ n ≤ 4294967296 := h.2.2.2.1
theorem Sess.kb (h : Sess T w g A c key n) : ByteL key := h.2.2.2.2.1
theorem Sess.len (h : Sess T w g A c key n) : key.length = 32 := h.2.2.2.2.2
theorem Sess.below (h : Sess T w g A c key n) (hb : Below w.heap.size w w1) : Sess T w1 g A c key n := ⟨blk_below h.1 hb, h.2.1.below hb, h.2.2⟩
theorem Sess.drewN (h : Sess T w g A c key n) (m : Nat) : Sess T (w.drewN m) g A c key n := h
theorem Sess.set (h : Sess T w g A c key n) (hT : T ≠ 5) {m : Int} (hm : 0 ≤ m ∧ m ≤ 4294967296) : Sess T (w.setCell ⟨g, 1, none⟩ (.int .i64 m)) g A c key m :=
  ⟨blk_set h.1 1 _, h.2.1.keep ((KeepBut.refl w g none).set_ 1 _) h.1 hT, h.2.2.1, hm, h.2.2.2.2⟩
/-- Another session's move. -/
theorem Sess.other {T2 : TypeId} {g2 : Nat} {cs : Array Value} {f : Nat × Nat} (h : Sess T w g A c key n) (hg : w.heap[g2]? = some (.cells cs T2 f)) (hT : T2 ≠ 5) (hm : Moved g2 w w1) (hne : g ≠ g2) : Sess T w1 g A c key n :=
  ⟨hm.2.blk h.1 hne (by simp), h.2.1.keep hm.2 hg hT, h.2.2⟩
end
theorem bel_a {W w3 : World} {o : Obj} (hb : Below (W.alloc o).drew.heap.size (W.alloc o).drew w3) : Below W.heap.size W w3 := (below_drew1 (below_alloc (Below.refl _ _) o)).trans (hb.mono (by simp))
theorem bel_d {W w3 : World} (hb : Below W.drew.heap.size W.drew w3) : Below W.heap.size W w3 := (below_drew1 (Below.refl _ _)).trans hb
theorem lit_below {W w3 : World} {l : List Int} (hl : l.length ≤ 1000000) (hb : Below (W.alloc (.cells (nums .u8 l).toArray 5)).drew.heap.size (W.alloc (.cells (nums .u8 l).toArray 5)).drew w3) : Kd.R (Kd.int .u8) 5 w3 W.heap.size (fun _ => True) (.slice (some ⟨W.heap.size, 0, none⟩) l.length l.length) l :=
  Kd.R_below (Kd.R_drew (lit_R W W.heap.size l (Nat.le_refl _) hl)) hb
theorem kNumber.calls (g : Nat) (A : Option Addr) (c : Nat) (key : List Int) (n : Int) (W : World) (h : Sess 71 W g A c key n) :
    Calls Try.prog 33 #[.pointer (some ⟨g, 0, none⟩)] W fun e w' => e = .returned (.int .i64 n) ∧ W = w' := by
  have k1 := h.c1
  clear h
  go_enter Try.func33, Try.ntmps33
  go_wp2
  go_ret
  exact ⟨rfl, rfl⟩
theorem kNumber_nil (W : World) : Calls Try.prog 33 #[.pointer none] W fun e w' => e = .returned (.int .i64 0) ∧ W = w' := by
  go_enter Try.func33, Try.ntmps33
  go_wp2
  go_ret
  exact ⟨rfl, rfl⟩
set_option maxHeartbeats 8000000 in
set_option maxRecDepth 100000 in
theorem kTicket.calls (g : Nat) (A : Option Addr) (c : Nat) (key : List Int) (n : Int) (W : World) (h : Sess 71 W g A c key n) :
    Calls Try.prog 29 #[.pointer (some ⟨g, 0, none⟩)] W fun e w' => ∃ v, e = .returned (.tuple #[v, .int .i64 (tickA key n).2]) ∧ Kd.R (Kd.int .u8) 5 w' W.heap.size (fun _ => True) v (tickA key n).1 ∧ Below W.heap.size W w' := by
  have HS := Aside0.mk h
  have k0 := h.c0
  have k1 := h.c1
  clear h
  by_cases hn : 4294967296 ≤ n
  · have hnb : decide (4294967295 < n) = true := decide_eq_true (by omega)
    have HA : Aside0 (tickA key n = ([], 12)) := ⟨by unfold tickA; rw [if_pos hn]⟩
    rw [HA.out]
    clear hn
    go_enter Try.func29, Try.ntmps29
    go_wp2
    go_ret2
    exact ⟨_, rfl, Kd.R_nil _ _ _ _ _, Below.refl _ _⟩
  · have hnb : decide (4294967295 < n) = false := decide_eq_false (by omega)
    have HA : Aside0 (tickA key n = (tickOf key n, 0)) := ⟨by unfold tickA; rw [if_neg hn]⟩
    have HN : Aside0 (0 ≤ n ∧ n < 4294967296) := ⟨⟨HS.out.num.1, by omega⟩⟩
    rw [HA.out]
    clear hn
    go_enter Try.func29, Try.ntmps29
    go_wp2
    go_region_held3 (fun w' => w'.cell? ⟨g, 0, none⟩ = some (.slice A 32 c) ∧ w'.cell? ⟨g, 1, none⟩ = some (.int .i64 n)) (first | exact ⟨(HS.out.below HB1.out).c0, (HS.out.below HB1.out).c1⟩ | exact ⟨HS.out.c0, HS.out.c1⟩) (first
      | (go_at_call 50; (with_reducible refine (kticket.calls A c key n _ HN.out HS.out.kb HS.out.len (Kd.C_drew HS.out.kc) HS.out.cap).mono ?_); rintro e w1 ⟨A1, c1, rfl, ho, hb⟩; have HO1 := Aside0.mk ho; have HB1 : Aside0 (Below W.heap.size W w1) := ⟨(below_drew1 (Below.refl _ _)).trans hb⟩; clear ho hb))
    all_goals go_wp2
    go_ret2
    exact ⟨_, rfl, HO1.out, HB1.out⟩
set_option maxHeartbeats 8000000 in
set_option maxRecDepth 100000 in
theorem kClose.ok (g : Nat) (A : Option Addr) (c : Nat) (key : List Int) (n kind : Int) (A2 : Option Addr) (c2 m2 : Nat) (l2 : List Int) (W : World) (h : Sess 71 W g A c key n) (hkd : 0 ≤ kind ∧ kind ≤ 255) (hm : m2 ≤ 400) (hn : n < 4294967296) (hl2 : l2.length = m2) (hy2 : ByteL l2) (hr2 : Kd.C (Kd.int .u8) W A2 m2 l2) (hc2 : m2 ≤ c2) :
    Calls Try.prog 20 #[.pointer (some ⟨g, 0, none⟩), .int .i64 kind, .slice A2 m2 c2] W fun e w' => ∃ v, e = .returned (.tuple #[v, .int .i64 0]) ∧ Kd.R (Kd.int .u8) 5 w' W.heap.size (fun _ => True) v (recOf key n kind l2) ∧ Sess 71 w' g A c key (n + 1) ∧ Moved g W w' := by
  have HS := Aside0.mk h
  have k0 := h.c0
  have k1 := h.c1
  have HN : Aside0 (0 ≤ n ∧ n < 4294967296) := ⟨⟨h.num.1, hn⟩⟩
  have HL2 := Aside0.mk hl2
  have HY2 := Aside0.mk hy2
  have HR2 := Aside0.mk hr2
  have HC2 := Aside0.mk hc2
  have HM := Aside0.mk hm
  have HM4 : Aside0 (m2 ≤ 4000) := ⟨by omega⟩
  have HKD := Aside0.mk hkd
  have b1 : decide (kind < 0) = false := decide_eq_false (by omega)
  have b2 : decide (255 < kind) = false := decide_eq_false (by omega)
  have b3 : decide (400 < (m2 : Int)) = false := decide_eq_false (by omega)
  have b4 : decide (400 < m2) = false := decide_eq_false (by omega)
  have b5 : decide (4294967295 < n) = false := decide_eq_false (by omega)
  have b6 : kind % 256 = kind := by omega
  clear h hkd hm hn hl2 hy2 hr2 hc2
  go_enter Try.func20, Try.ntmps20
  go_wp2
  have HAL : Aside0 ((appOf key n l2).length = m2) := ⟨by rw [appOf_length, HL2.out]⟩
  have b7 : IntKind.u8.wrap kind = kind := by rw [IntKind.wrap_u8]; exact b6
  have b8 : IntKind.u8.wrap ((m2 : Int) / 256) = (m2 : Int) / 256 % 256 := IntKind.wrap_u8 _
  have b9 : IntKind.u8.wrap (m2 : Int) = (m2 : Int) % 256 := IntKind.wrap_u8 _
  go_region_held3 (fun w' => w'.cell? ⟨g, 0, none⟩ = some (.slice A 32 c) ∧ w'.cell? ⟨g, 1, none⟩ = some (.int .i64 n)) (first | exact ⟨(HS.out.below HB4.out).c0, (HS.out.below HB4.out).c1⟩ | exact ⟨(HS.out.below (below_alloc HB3.out _)).c0, (HS.out.below (below_alloc HB3.out _)).c1⟩ | exact ⟨(HS.out.below HB3.out).c0, (HS.out.below HB3.out).c1⟩ | exact ⟨(HS.out.below (below_alloc (below_drew1 (Below.refl _ _)) _)).c0, (HS.out.below (below_alloc (below_drew1 (Below.refl _ _)) _)).c1⟩ | exact ⟨HS.out.c0, HS.out.c1⟩) (first
    | (go_at_call 44; (with_reducible refine (apply.calls A c key n A2 _ m2 l2 _ HN.out HS.out.kb HS.out.len HY2.out HL2.out HM4.out ?side1 HS.out.cap ?side2 HC2.out).mono ?_); (case side1 => repeat (first | exact HS.out.kc | (with_reducible refine Kd.C_alloc ?_ _) | (with_reducible refine Kd.C_drew ?_))); (case side2 => repeat (first | exact HR2.out | (with_reducible refine Kd.C_alloc ?_ _) | (with_reducible refine Kd.C_drew ?_))); rintro e w3 ⟨A3, c3, rfl, hl, hc, hb⟩; have HC3 := Aside0.mk hc; have HL3 := Aside0.mk hl; have HLIT := Aside0.mk (lit_below (l := [kind, (m2 : Int) / 256 % 256, (m2 : Int) % 256]) (by simp) hb); have HB3 : Aside0 (Below W.heap.size W w3) := ⟨by exact bel_a hb⟩; clear hl hc hb)
    | (go_at_call 44; (with_reducible refine (apply.calls A c key n A2 _ m2 l2 _ HN.out HS.out.kb HS.out.len HY2.out HL2.out HM4.out ?side1 HS.out.cap ?side2 HC2.out).mono ?_); (case side1 => repeat (first | exact HS.out.kc | (with_reducible refine Kd.C_alloc ?_ _) | (with_reducible refine Kd.C_drew ?_))); (case side2 => repeat (first | exact HR2.out | (with_reducible refine Kd.C_alloc ?_ _) | (with_reducible refine Kd.C_drew ?_))); rintro e w3 ⟨A3, c3, rfl, hl, hc, hb⟩; have HC3 := Aside0.mk hc; have HL3 := Aside0.mk hl; have HB3 : Aside0 (Below W.heap.size W w3) := ⟨by exact bel_d hb⟩; clear hl hc hb)
    | (refine Kd.R_append_rows_step (Kd.int .u8) (w0 := W) W.heap.size (by rfl) (.tmp 38) (.tmp 48) 22 5 (.int .u8 0) 1 rfl Try.underlying22 info5 rfl (by decide) (by omega) _ [kind, (m2 : Int) / 256 % 256, (m2 : Int) % 256] (appOf key n l2) A3 m2 c3 (fun _ => True) (fun _ => False) (by rfl) (by rfl) HLIT.out HC3.out (fun _ _ h => h) (fun _ h => h.elim) (fun _ _ => trivial) HB3.out ?aS ?aL ?_; (case aS => exact HB3.out.size); (case aL => have := HM.out; simp only [List.length_cons, List.length_nil]; clear b6 b7 b8 b9; omega); intro v4 w4 ho hb _ _; have HO4 := Aside0.mk ho; have HB4 := Aside0.mk hb; clear ho hb)
    | (refine Kd.R_append_rows_step (Kd.int .u8) (w0 := W) W.heap.size (by rfl) (.tmp 38) (.tmp 48) 22 5 (.int .u8 0) 1 rfl Try.underlying22 info5 rfl (by decide) (by omega) _ [kind, (m2 : Int) / 256 % 256, (m2 : Int) % 256] (appOf key n l2) A3 m2 c3 (fun _ => True) (fun _ => False) (by rfl) (by rfl) (lit_R w3 W.heap.size [kind, (m2 : Int) / 256 % 256, (m2 : Int) % 256] HB3.out.size (by simp)) (Kd.C_alloc HC3.out _) (fun _ _ h => h) (fun _ h => h.elim) (fun _ _ => trivial) (below_alloc HB3.out _) ?aS ?aL ?_; (case aS => have := HB3.out.size; simp; omega); (case aL => have := HM.out; simp only [List.length_cons, List.length_nil]; clear b6 b7 b8 b9; omega); intro v4 w4 ho hb _ _; have HO4 := Aside0.mk ho; have HB4 := Aside0.mk hb; clear ho hb))
  all_goals go_wp2
  all_goals (
    have HH : Aside0 ([kind, (m2 : Int) / 256 % 256, (m2 : Int) % 256] ++ appOf key n l2 = headOf key n kind l2) := ⟨by unfold headOf; rw [HL2.out]; rfl⟩
    have HHL : Aside0 ((headOf key n kind l2).length = m2 + 3) := ⟨by rw [headOf_length, HL2.out]⟩
    have ho4 := HO4.out
    rw [HH.out] at ho4
    obtain ⟨A4, c4, e4⟩ := Kd.R_slice ho4
    rw [HHL.out] at e4
    subst e4
    have HP4 := Aside0.mk ho4
    have HS4 := Aside0.mk (HS.out.below HB4.out)
    have HYH : Aside0 (ByteL (headOf key n kind l2)) := ⟨headOf_byte key n HKD.out HY2.out⟩
    have HM5 : Aside0 (m2 + 3 ≤ 4000) := ⟨by have := HM.out; omega⟩
    clear ho4 b1 b2 b3 b4 b5 b6 b7 b8 b9 k0 k1 HO4
    have hn0 := HN.out.1
    have hn1 : n + 1 ≤ 4294967296 := by have := HN.out.2; omega
    go_region_held3 (fun w' => w'.cell? ⟨g, 0, none⟩ = some (.slice A 32 c) ∧ w'.cell? ⟨g, 1, none⟩ = some (.int .i64 n)) (first | exact ⟨(HS.out.below HB6.out).c0, (HS.out.below HB6.out).c1⟩ | exact ⟨(HS4.out.below HB5.out).c0, (HS4.out.below HB5.out).c1⟩ | exact ⟨HS4.out.c0, HS4.out.c1⟩) (first
      | (go_at_call 45; (with_reducible refine (ktag.calls A c key n A4 c4 (m2 + 3) (headOf key n kind l2) _ HN.out HS4.out.kb HS4.out.len HYH.out HHL.out (Kd.C_drew HS4.out.kc) HS4.out.cap (Kd.C_drew (R_at HP4.out).1) (R_at HP4.out).2).mono ?_); rintro e w5 ⟨A5, c5, rfl, ho, hb⟩; have HO5 := Aside0.mk ho; have HB5 := Aside0.mk (bel_d hb); clear ho hb)
      | (refine Kd.R_append_rows_step (Kd.int .u8) (w0 := W) W.heap.size (by rfl) (.tmp 50) (.tmp 60) 22 5 (.int .u8 0) 1 rfl Try.underlying22 info5 rfl (by decide) (by omega) _ (headOf key n kind l2) (sealOf key n (headOf key n kind l2)) A5 8 c5 (fun _ => True) (fun _ => False) (by rfl) (by rfl) (Kd.R_below HP4.out HB5.out) (R_at HO5.out).1 (fun _ _ h => h) (fun _ h => h.elim) (fun _ _ => trivial) (HB4.out.trans (HB5.out.mono HB4.out.size)) ?aS ?aL ?_; (case aS => exact Nat.le_trans HB4.out.size HB5.out.size); (case aL => rw [HHL.out]; have := HM5.out; omega); intro v6 w6 ho hb _ _; have HO6 := Aside0.mk ho; have HB6 := Aside0.mk hb; clear ho hb))
    have HS6 := Aside0.mk (HS.out.below HB6.out)
    have k1 := HS6.out.c1
    have f1 := HS6.out.fz 1
    go_wp2
    go_ret2
    exact ⟨_, rfl, Kd.R_mono (Kd.R_far (Kd.R_bound HO6.out) (fun k hk => by have h1 := hk.2.1; have h2 := HS.out.lt; show k ≠ g; omega) _) (fun _ _ => trivial), HS6.out.set (by decide) ⟨by omega, by omega⟩, (Moved.of_below HB6.out (Nat.le_of_lt HS.out.lt)).set HS6.out.lt 1 _⟩)
end Go.Proofs.Ytpkmfaloncclaaa.T
