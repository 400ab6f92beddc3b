/- A key's session, on: Read walked. Conditions: as each theorem says. -/
import Derived.Test.YtpkmfaloncclaaaS4
namespace Go.Proofs.Ytpkmfaloncclaaa.T
open Go Go.RowKit Go.Shelf Go.Proofs.Ytpkmfaloncclaaa.K Go.Proofs.Ytpkmfaloncclaaa.Pure Go.Proofs.YtpkmfaloncclaaaW.PrintWords Go.Proofs.YtpkmfaloncclaaaW.PrintLast Go.Proofs.YtpkmfaloncclaaaW.PrintMore Hand
attribute [local go_sem] Oper.semAt_some max2_int min2_int max_two min_two max_three min_three max_four min_four
set_option linter.unusedVariables false
/-- What is answered by Read: its numbers, the body as a row of the call's own (of another capacity), and the session behind it. -/
def ReadPost (T : TypeId) (W : World) (g : Nat) (A : Option Addr) (c : Nat) (key : List Int) (x : (Int × List Int × Int × Int) × Int) (e : Ending) (w' : World) : Prop :=
  ∃ (Ab : Option Addr) (cb co : Nat), e = .returned (.tuple #[.int .i64 x.1.1, .slice Ab x.1.2.1.length cb, .int .i64 x.1.2.2.1, .int .i64 x.1.2.2.2]) ∧ x.1.2.1.length ≤ cb ∧ Kd.R (Kd.int .u8) 5 w' W.heap.size (fun _ => True) (.slice Ab x.1.2.1.length co) x.1.2.1 ∧ Sess T w' g A c key x.2 ∧ Moved g W w'
theorem ReadPost.nought {T : TypeId} {W : World} {g : Nat} {A : Option Addr} {c : Nat} {key : List Int} {n er : Int} (m : Nat) (h : Sess T W g A c key n) : ReadPost T W g A c key ((0, [], 0, er), n) (.returned (.tuple #[.int .i64 0, .slice none 0 0, .int .i64 0, .int .i64 er])) (W.drewN m) :=
  ⟨none, 0, 0, rfl, Nat.le_refl _, Kd.R_nil _ _ _ _ _, h, ⟨pw_below_drewN ((Below.refl W.heap.size W).mono (Nat.le_of_lt h.lt)) m, keep_drewN (KeepBut.refl _ _ _) m⟩⟩
theorem Sess.ne_byte {T : TypeId} {w : World} {g : Nat} {A : Option Addr} {c : Nat} {key : List Int} {n : Int} (h : Sess T w g A c key n) {a : Addr} {x : Int} (hx : w.cell? a = some (.int .u8 x)) : a.block ≠ g := by
  intro e
  unfold World.cell? at hx
  rw [e, h.1] at hx
  simp only at hx
  split at hx
  · cases hx
  · rcases Nat.lt_or_ge a.off 2 with h2 | h2
    · have h3 : a.off = 0 ∨ a.off = 1 := by omega
      rcases h3 with h3 | h3 <;> rw [h3] at hx <;> simp at hx
    · rw [Array.getElem?_eq_none (by simpa using h2)] at hx
      cases hx
set_option maxHeartbeats 8000000 in
set_option maxRecDepth 100000 in
theorem kRead.calls (g : Nat) (A : Option Addr) (c : Nat) (key : List Int) (n : Int) (A2 : Option Addr) (c2 m2 : Nat) (l2 : List Int) (W : World) (h : Sess 71 W g A c key n) (hm : m2 ≤ 140737488351232) (hl2 : l2.length = m2) (hy2 : ByteL l2) (hr2 : Kd.C (Kd.int .u8) W A2 m2 l2) (hc2 : m2 ≤ c2) :
    Calls Try.prog 23 #[.pointer (some ⟨g, 0, none⟩), .slice A2 m2 c2] W (ReadPost 71 W g A c key (readA key n l2)) := by
  have HS := Aside0.mk h
  have k1 := h.c1
  have hnn := h.num
  have HL2 := Aside0.mk hl2
  have HY2 := Aside0.mk hy2
  have HR2 := Aside0.mk hr2
  have HC2 := Aside0.mk hc2
  unfold readA
  rw [hl2]
  by_cases q1 : 4294967296 ≤ n
  · have b1 : decide (4294967295 < n) = true := decide_eq_true (by omega)
    rw [if_pos q1]
    clear h hl2 hy2 hr2 hc2 hnn
    go_enter Try.func23, Try.ntmps23
    go_wp2
    (try simp only [Exit.inBlock, Exit.then]); refine bodyPost_ret (results_tmp4 rfl _ _ _) rfl ?_
    exact ReadPost.nought 0 HS.out
  have b1 : decide (4294967295 < n) = false := decide_eq_false (by omega)
  have HN : Aside0 (0 ≤ n ∧ n < 4294967296) := ⟨⟨hnn.1, by omega⟩⟩
  rw [if_neg q1]
  by_cases q2 : m2 < 3
  · have b2 : decide ((m2 : Int) < 3) = true := decide_eq_true (by omega)
    have b3 : decide (m2 < 3) = true := decide_eq_true q2
    rw [if_pos q2]
    clear h hl2 hy2 hr2 hc2 hnn
    go_enter Try.func23, Try.ntmps23
    go_wp2
    (try simp only [Exit.inBlock, Exit.then]); refine bodyPost_ret (results_tmp4 rfl _ _ _) rfl ?_
    exact ReadPost.nought 0 HS.out
  have b2 : decide ((m2 : Int) < 3) = false := decide_eq_false (by omega)
  have b3 : decide (m2 < 3) = false := decide_eq_false q2
  rw [if_neg q2]
  obtain ⟨ad, e, hx⟩ := (Kd.reads_of_C (enc := Value.int .u8) (d := (0 : Int)) (h1 := fun _ => rfl) hr2).2.2 (by omega)
  subst e
  have y0 := hx 0 (by omega)
  have y1 := hx 1 (by omega)
  have y2 := hx 2 (by omega)
  have r0 := byte_at hy2 (i := 0) (by omega)
  have r1 := byte_at hy2 (i := 1) (by omega)
  have r2 := byte_at hy2 (i := 2) (by omega)
  obtain ⟨x0, e0⟩ : ∃ x, l2.getD 0 0 = x := ⟨_, rfl⟩
  obtain ⟨x1, e1⟩ : ∃ x, l2.getD 1 0 = x := ⟨_, rfl⟩
  obtain ⟨x2, e2⟩ : ∃ x, l2.getD 2 0 = x := ⟨_, rfl⟩
  have hs : bodyLen l2 = 256 * x1 + x2 := by unfold bodyLen; rw [e1, e2]
  rw [e0] at y0 r0
  rw [e1] at y1 r1
  rw [e2] at y2 r2
  obtain ⟨s, hsz⟩ : ∃ s : Nat, 256 * x1 + x2 = (s : Int) := ⟨(256 * x1 + x2).toNat, by omega⟩
  have o1 : Go.bits .or .i64 (x1 * 256) x2 = (s : Int) := by rw [or_be r1.1 r1.2 r2.1 r2.2, hsz]
  rw [hsz] at hs
  rw [hs, e0]
  have HX0 := Aside0.mk y0
  have y3 : W.cell? ⟨ad.block, ad.off + 1, none⟩ = some (.int .u8 x1) := by have h := y1; simpa [Addr.add] using h
  have y4 : W.cell? ⟨ad.block, ad.off + 2, none⟩ = some (.int .u8 x2) := by have h := y2; simpa [Addr.add] using h
  have z1 : ∀ i : Int, x1 % i = x1 % i := fun _ => rfl
  clear hx e0 e1 e2 hsz z1
  have h0s : (0 : Int) ≤ (s : Int) := by omega
  have i1 : (1 : Int) < (m2 : Int) := by omega
  have i2 : (2 : Int) < (m2 : Int) := by omega
  have i3 : 1 < m2 := by omega
  have i4 : 2 < m2 := by omega
  have i5 : 0 < m2 := by omega
  have hr0 := HR2.out
  by_cases q3 : 400 < (s : Int)
  · have b4 : decide (400 < (s : Int)) = true := decide_eq_true q3
    have b5 : decide (400 < s) = true := decide_eq_true (by omega)
    rw [if_pos q3]
    clear h hl2 hy2 hr2 hc2 hnn hr0
    go_enter Try.func23, Try.ntmps23
    go_wp2
    go_quiet (fail)
    go_wp2
    (try simp only [Exit.inBlock, Exit.then]); refine bodyPost_ret (results_tmp4 rfl _ _ _) rfl ?_
    exact ReadPost.nought _ HS.out
  have b4 : decide (400 < (s : Int)) = false := decide_eq_false q3
  have b5 : decide (400 < s) = false := decide_eq_false (by omega)
  rw [if_neg q3]
  obtain ⟨p3, hp3⟩ : ∃ p : Nat, s + 3 = p := ⟨_, rfl⟩
  obtain ⟨p11, hp11⟩ : ∃ p : Nat, s + 11 = p := ⟨_, rfl⟩
  have u1 : IntKind.i64.wrap (3 + (s : Int)) = (p3 : Int) := by rw [i64_w, w64 (by omega) (by omega)]; omega
  have u2 : IntKind.i64.wrap ((p3 : Int) + 8) = (p11 : Int) := by rw [i64_w, w64 (by omega) (by omega)]; omega
  have hp3i : (s : Int) + 3 = (p3 : Int) := by omega
  have hp11i : (s : Int) + 11 = (p11 : Int) := by omega
  rw [hp11i, hp3i]
  by_cases q4 : (m2 : Int) < (p11 : Int)
  · have b6 : decide ((m2 : Int) < (p11 : Int)) = true := decide_eq_true q4
    have b7 : decide (m2 < p11) = true := decide_eq_true (by omega)
    rw [if_pos q4]
    clear h hl2 hy2 hr2 hc2 hnn hr0
    go_enter Try.func23, Try.ntmps23
    go_wp2
    go_quiet (fail)
    go_wp2
    (try simp only [Exit.inBlock, Exit.then]); refine bodyPost_ret (results_tmp4 rfl _ _ _) rfl ?_
    exact ReadPost.nought _ HS.out
  have b6 : decide ((m2 : Int) < (p11 : Int)) = false := decide_eq_false q4
  have b7 : decide (m2 < p11) = false := decide_eq_false (by omega)
  rw [if_neg q4, Int.toNat_natCast, Int.toNat_natCast]
  obtain ⟨cutT, hCT⟩ := cut_to (some ad) c2 m2 l2 hl2 hc2 p3 (by omega)
  obtain ⟨AM, cutM, hCM⟩ := cut_mid' (some ad) c2 m2 l2 hl2 hc2 p3 p11 (by omega) (by omega)
  obtain ⟨AB, cutB, hCB⟩ := cut_mid' (some ad) c2 m2 l2 hl2 hc2 3 p3 (by omega) (by omega)
  have e3s : p3 - 3 = s := by omega
  rw [e3s] at cutB hCB
  rw [show ((3 : Nat) : Int) = 3 from rfl] at cutB
  have HCB := Aside0.mk hCB
  have HYB : Aside0 (ByteL ((l2.take p3).drop 3)) := ⟨byteL_drop (byteL_take hy2 p3) 3⟩
  have HLB : Aside0 (((l2.take p3).drop 3).length = s) := ⟨by rw [List.length_drop, List.length_take]; omega⟩
  have HP4 : Aside0 (s ≤ 4000 ∧ s ≤ c2 - 3) := ⟨by omega, by omega⟩
  have HNE : Aside0 (ad.block ≠ g) := ⟨by have h9 := HS.out.ne_byte HX0.out; rwa [add_block] at h9⟩
  clear hCB e3s
  have e8 : p11 - p3 = 8 := by omega
  rw [e8] at cutM hCM
  have HCT := Aside0.mk hCT
  have HCM := Aside0.mk hCM
  have HYT : Aside0 (ByteL (l2.take p3)) := ⟨byteL_take hy2 p3⟩
  have HLT : Aside0 ((l2.take p3).length = p3) := ⟨by rw [List.length_take]; omega⟩
  have HP3 : Aside0 (p3 ≤ 1000 ∧ p3 ≤ c2 ∧ 8 ≤ c2 - p3) := ⟨by omega, by omega, by omega⟩
  have HS3 : Aside0 (s + 3 = p3 ∧ s ≤ 400) := ⟨hp3, by omega⟩
  have HRW := Aside0.mk hr0
  have k0 := h.c0
  clear h hl2 hy2 hr2 hc2 hnn hr0 hCT hCM hp3 hp11 hp3i hp11i q1 q2 q3 q4 e8 hs
  obtain ⟨E, hE⟩ : ∃ E, eqB (sealOf key n (l2.take p3)) ((l2.take p11).drop p3) = E := ⟨_, rfl⟩
  rw [hE]
  cases E with
  | false =>
    rw [if_neg (by decide)]
    have HE := Aside0.mk hE
    clear hE
    go_enter Try.func23, Try.ntmps23
    go_wp2
    go_quiet (fail)
    obtain ⟨W1, hW1⟩ : ∃ W1, W.drewN nq = W1 := ⟨_, rfl⟩
    have HSW : Aside0 (Sess 71 W1 g A c key n) := ⟨by rw [← hW1]; exact HS.out.drewN _⟩
    have HBW : Aside0 (Below W.heap.size W W1) := ⟨by rw [← hW1]; exact pw_below_drewN (Below.refl _ _) _⟩
    have HR1 : Aside0 (Kd.C (Kd.int .u8) W1 (some ad) m2 l2) := ⟨by rw [← hW1]; exact Kd.C_drewN HRW.out _⟩
    rw [hW1]
    clear hW1 y0 y1 y2 y3 y4 k1 k0
    go_wp2
    go_region_held3 (fun w' => w'.cell? ⟨g, 0, none⟩ = some (.slice A 32 c) ∧ w'.cell? ⟨g, 1, none⟩ = some (.int .i64 n)) (first | exact ⟨(HSW.out.below HB3.out).c0, (HSW.out.below HB3.out).c1⟩ | exact ⟨HSW.out.c0, HSW.out.c1⟩) (first
      | (go_at_call 45; (with_reducible refine (ktag.calls A c key n (some ad) c2 p3 (l2.take p3) _ HN.out HSW.out.kb HSW.out.len HYT.out HLT.out (Kd.C_drew HSW.out.kc) HSW.out.cap (Kd.C_drew (HCT.out _ HR1.out)) HP3.out.2.1).mono ?_); rintro e w3 ⟨A3, c3, rfl, ho, hb⟩; have HO3 := Aside0.mk ho; have HB3 := Aside0.mk (bel_d hb); clear ho hb)
      | (go_at_call 46; (with_reducible refine (equal.callsm A3 c3 8 (sealOf key n (l2.take p3)) AM _ 8 ((l2.take p11).drop p3) _ (R_at HO3.out).1 (R_at HO3.out).2 (HCM.out _ (Kd.C_below HR1.out HB3.out)) HP3.out.2.2).mono ?_); rw [HE.out]; rintro e w4 ⟨rfl, hd⟩; obtain ⟨nd, rfl⟩ := hd.out))
    have HS4 : Aside0 (Sess 71 (w3.drewN nd) g A c key n) := ⟨(HSW.out.below HB3.out).drewN nd⟩
    have HB4 : Aside0 (Below W.heap.size W (w3.drewN nd)) := ⟨pw_below_drewN (HBW.out.trans (HB3.out.mono HBW.out.size)) nd⟩
    have HR4 : Aside0 (Kd.C (Kd.int .u8) (w3.drewN nd) (some ad) m2 l2) := ⟨Kd.C_drewN (Kd.C_below HR1.out HB3.out) nd⟩
    go_wp2
    (try simp only [Exit.inBlock, Exit.then]); refine bodyPost_ret (results_tmp4 rfl _ _ _) rfl ?_
    exact ⟨none, 0, 0, rfl, Nat.le_refl _, Kd.R_nil _ _ _ _ _, HS4.out, Moved.of_below HB4.out (Nat.le_of_lt HS.out.lt)⟩
  | true =>
    rw [if_pos rfl]
    have HE := Aside0.mk hE
    clear hE
    go_enter Try.func23, Try.ntmps23
    go_wp2
    go_quiet (fail)
    obtain ⟨W1, hW1⟩ : ∃ W1, W.drewN nq = W1 := ⟨_, rfl⟩
    have HSW : Aside0 (Sess 71 W1 g A c key n) := ⟨by rw [← hW1]; exact HS.out.drewN _⟩
    have HBW : Aside0 (Below W.heap.size W W1) := ⟨by rw [← hW1]; exact pw_below_drewN (Below.refl _ _) _⟩
    have HR1 : Aside0 (Kd.C (Kd.int .u8) W1 (some ad) m2 l2) := ⟨by rw [← hW1]; exact Kd.C_drewN HRW.out _⟩
    rw [hW1]
    clear hW1 y0 y1 y2 y3 y4 k1 k0
    go_wp2
    go_region_held3 (fun w' => w'.cell? ⟨g, 0, none⟩ = some (.slice A 32 c) ∧ w'.cell? ⟨g, 1, none⟩ = some (.int .i64 n)) (first | exact ⟨(HSW.out.below HB3.out).c0, (HSW.out.below HB3.out).c1⟩ | exact ⟨HSW.out.c0, HSW.out.c1⟩) (first
      | (go_at_call 45; (with_reducible refine (ktag.calls A c key n (some ad) c2 p3 (l2.take p3) _ HN.out HSW.out.kb HSW.out.len HYT.out HLT.out (Kd.C_drew HSW.out.kc) HSW.out.cap (Kd.C_drew (HCT.out _ HR1.out)) HP3.out.2.1).mono ?_); rintro e w3 ⟨A3, c3, rfl, ho, hb⟩; have HO3 := Aside0.mk ho; have HB3 := Aside0.mk (bel_d hb); clear ho hb)
      | (go_at_call 46; (with_reducible refine (equal.callsm A3 c3 8 (sealOf key n (l2.take p3)) AM _ 8 ((l2.take p11).drop p3) _ (R_at HO3.out).1 (R_at HO3.out).2 (HCM.out _ (Kd.C_below HR1.out HB3.out)) HP3.out.2.2).mono ?_); rw [HE.out]; rintro e w4 ⟨rfl, hd⟩; obtain ⟨nd, rfl⟩ := hd.out))
    have HS4 : Aside0 (Sess 71 (w3.drewN nd) g A c key n) := ⟨(HSW.out.below HB3.out).drewN nd⟩
    have HB4 : Aside0 (Below W.heap.size W (w3.drewN nd)) := ⟨pw_below_drewN (HBW.out.trans (HB3.out.mono HBW.out.size)) nd⟩
    have HR4 : Aside0 (Kd.C (Kd.int .u8) (w3.drewN nd) (some ad) m2 l2) := ⟨Kd.C_drewN (Kd.C_below HR1.out HB3.out) nd⟩
    obtain ⟨W4, hW4⟩ : ∃ W4, w3.drewN nd = W4 := ⟨_, rfl⟩
    rw [hW4] at HS4 HB4 HR4
    rw [hW4]
    clear hW4
    have hn0 := HN.out.1
    have hn1 : n + 1 ≤ 4294967296 := by have := HN.out.2; omega
    go_wp2
    go_region_held3 (fun w' => w'.cell? ⟨g, 0, none⟩ = some (.slice A 32 c) ∧ w'.cell? ⟨g, 1, none⟩ = some (.int .i64 n)) (first | exact ⟨(HS4.out.below HB5.out).c0, (HS4.out.below HB5.out).c1⟩ | exact ⟨HS4.out.c0, HS4.out.c1⟩) (first
      | (go_at_call 44; (with_reducible refine (apply.callsR A c key n AB _ s ((l2.take p3).drop 3) _ HN.out HS4.out.kb HS4.out.len HYB.out HLB.out HP4.out.1 (Kd.C_drew HS4.out.kc) HS4.out.cap (Kd.C_drew (HCB.out _ HR4.out)) HP4.out.2).mono ?_); rintro e w5 ⟨A5, c5, co5, rfl, hl, ho, hb⟩; have HL5 := Aside0.mk hl; have HO5 := Aside0.mk ho; have HB5 := Aside0.mk (bel_d hb); clear hl ho hb))
    have HS5 := Aside0.mk (HS4.out.below HB5.out)
    have HBF : Aside0 (Below W.heap.size W w5) := ⟨HB4.out.trans (HB5.out.mono HB4.out.size)⟩
    have k1 := HS5.out.c1
    have f1 := HS5.out.fz 1
    have HX5 := pw_cell_below HBF.out HX0.out
    have y9 : (w5.setCell ⟨g, 1, none⟩ (.int .i64 (n + 1))).cell? (ad.add 0) = some (.int .u8 x0) := by rw [cell_far (by rw [add_block]; exact HNE.out)]; exact HX5
    have y8 : (w5.setCell ⟨g, 1, none⟩ (.int .i64 (n + 1))).cell? ad = some (.int .u8 x0) := by have h := y9; rwa [show ad.add 0 = ad from by unfold Addr.add; simp] at h
    clear HX5
    go_wp2
    (try simp only [Exit.inBlock, Exit.then]); refine bodyPost_ret (results_tmp4 rfl _ _ _) rfl ?_
    have hap : (appOf key n ((l2.take p3).drop 3)).length = s := by rw [appOf_length, HLB.out]
    refine ⟨A5, c5, co5, by rw [hap]; rfl, by rw [hap]; exact HL5.out, ?_, HS5.out.set (by decide) ⟨by omega, by omega⟩, (Moved.of_below HBF.out (Nat.le_of_lt HS.out.lt)).set HS5.out.lt 1 _⟩
    rw [hap]
    have ho := Kd.R_lower HO5.out HB4.out.size
    exact Kd.R_mono (Kd.R_far (Kd.R_bound ho) (fun k hk => by have h1 := hk.2.1; have h2 := HS.out.lt; show k ≠ g; omega) _) (fun _ _ => trivial)
end Go.Proofs.Ytpkmfaloncclaaa.T
