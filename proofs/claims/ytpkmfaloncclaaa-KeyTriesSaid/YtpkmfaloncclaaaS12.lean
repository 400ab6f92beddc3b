/- The methods of a session that is nil, the law's 'nothing', and 'refused': both sides read one record alike. Conditions: as each theorem says. -/
import Derived.Test.YtpkmfaloncclaaaS11
namespace Go.Proofs.Ytpkmfaloncclaaa.T
open Go Go.RowKit Go.Shelf Go.Proofs.Ytpkmfaloncclaaa.K Go.Proofs.Ytpkmfaloncclaaa.Pure Go.Proofs.YtpkmfaloncclaaaW.PrintWords Go.Proofs.YtpkmfaloncclaaaW.PrintLast Go.Proofs.YtpkmfaloncclaaaW.PrintMore Hand
attribute [local go_sem] Oper.semAt_some max2_int min2_int max_two min_two max_three min_three max_four min_four
set_option linter.unusedVariables false
/-- A row of bytes is kept where a session has moved. -/
theorem C_moved {T : TypeId} {w w' : World} {g : Nat} {A : Option Addr} {c : Nat} {key : List Int} {n : Int} {A2 : Option Addr} {m2 : Nat} {l2 : List Int} (h : Sess T w g A c key n) (hm : Moved g w w') (hl : l2.length = m2) (hc : Kd.C (Kd.int .u8) w A2 m2 l2) : Kd.C (Kd.int .u8) w' A2 m2 l2 := by
  refine Kd.C_keep (0 : Int) hc hm.2 (fun ad e hn => ?_)
  obtain ⟨ad2, e2, hx⟩ := (Kd.reads_of_C (enc := Value.int .u8) (d := (0 : Int)) (h1 := fun _ => rfl) hc).2.2 (by omega)
  rw [e] at e2
  cases e2
  have h9 := h.ne_byte (hx 0 (by omega))
  rwa [add_block] at h9
set_option maxHeartbeats 8000000 in
set_option maxRecDepth 100000 in
theorem kClose_nil (w : World) : Calls Try.prog 20 #[.pointer none, .int .i64 0, .slice none 0 0] w fun e w' => e = .returned (.tuple #[.slice none 0 0, .int .i64 9]) ∧ w = w' := by
  go_enter Try.func20, Try.ntmps20
  go_wp2
  go_ret2
  exact ⟨rfl, rfl⟩
set_option maxHeartbeats 8000000 in
set_option maxRecDepth 100000 in
theorem kRead_nil (w : World) : Calls Try.prog 23 #[.pointer none, .slice none 0 0] w fun e w' => e = .returned (.tuple #[.int .i64 0, .slice none 0 0, .int .i64 0, .int .i64 9]) ∧ w = w' := by
  go_enter Try.func23, Try.ntmps23
  go_wp2
  (try simp only [Exit.inBlock, Exit.then]); refine bodyPost_ret (results_tmp4 rfl _ _ _) rfl ?_
  exact ⟨rfl, rfl⟩
set_option maxHeartbeats 8000000 in
set_option maxRecDepth 100000 in
theorem kTicket_nil (w : World) : Calls Try.prog 29 #[.pointer none] w fun e w' => e = .returned (.tuple #[.slice none 0 0, .int .i64 9]) ∧ w = w' := by
  go_enter Try.func29, Try.ntmps29
  go_wp2
  go_ret2
  exact ⟨rfl, rfl⟩
set_option maxHeartbeats 8000000 in
set_option maxRecDepth 100000 in
theorem nothing.calls (w : World) : Calls Try.prog 27 #[.pointer none] w fun e w' => e = .returned (.bool true) ∧ Below w.heap.size w w' := by
  go_enter Try.func27, Try.ntmps27
  go_wp2_with (first
    | (go_at_call 20; (with_reducible refine (kClose_nil _).mono ?_); rintro e w1 ⟨rfl, rfl⟩)
    | (go_at_call 23; (with_reducible refine (kRead_nil _).mono ?_); rintro e w1 ⟨rfl, rfl⟩)
    | (go_at_call 29; (with_reducible refine (kTicket_nil _).mono ?_); rintro e w1 ⟨rfl, rfl⟩)
    | (go_at_call 33; (with_reducible refine (kNumber_nil _).mono ?_); rintro e w1 ⟨rfl, rfl⟩))
  go_ret
  exact ⟨rfl, Below.refl _ _⟩
/-- Two sessions have moved, one after the other. -/
def Moved2 (g g2 : Nat) (w w' : World) : Prop := ∃ v, Moved g w v ∧ Moved g2 v w'
set_option maxHeartbeats 8000000 in
set_option maxRecDepth 100000 in
theorem refused.calls (g : Nat) (A : Option Addr) (c : Nat) (g2 : Nat) (B : Option Addr) (d : Nat) (key : List Int) (n : Int) (A2 : Option Addr) (c2 m2 : Nat) (l2 : List Int) (W : World) (h : Sess 71 W g A c key n) (h2 : Sess 73 W g2 B d key n) (hne : g ≠ g2) (hm : m2 ≤ 140737488351232) (hl2 : l2.length = m2) (hy2 : ByteL l2) (hr2 : Kd.C (Kd.int .u8) W A2 m2 l2) (hc2 : m2 ≤ c2) :
    Calls Try.prog 21 #[.pointer (some ⟨g, 0, none⟩), .pointer (some ⟨g2, 0, none⟩), .slice A2 m2 c2] W fun e w' => e = .returned (.bool true) ∧ Sess 71 w' g A c key (readA key n l2).2 ∧ Sess 73 w' g2 B d key (readA key n l2).2 ∧ Moved2 g g2 W w' := by
  have HS := Aside0.mk h
  have HT := Aside0.mk h2
  have HNE := Aside0.mk hne
  have HM := Aside0.mk hm
  have HL2 := Aside0.mk hl2
  have HY2 := Aside0.mk hy2
  have HR2 := Aside0.mk hr2
  have HC2 := Aside0.mk hc2
  obtain ⟨R, hR⟩ : ∃ R, readA key n l2 = R := ⟨_, rfl⟩
  rw [hR]
  have HRR := Aside0.mk hR
  clear h h2 hne hm hl2 hy2 hr2 hc2 hR
  go_enter Try.func21, Try.ntmps21
  go_wp2_with (first
    | (go_at_call 23; (with_reducible refine (kRead.calls g A c key n A2 c2 m2 l2 _ HS.out HM.out HL2.out HY2.out HR2.out HC2.out).mono ?_); rw [HRR.out]; rintro e w1 ⟨Ab, cb, co, rfl, hl, ho, hs, hmv⟩; have HS1 := Aside0.mk hs; have HM1 := Aside0.mk hmv; have HT1 : Aside0 (Sess 73 w1 g2 B d key n) := ⟨HT.out.other HS.out.1 (by decide) hmv (fun h => HNE.out h.symm)⟩; clear hl ho hs hmv)
    | (go_at_call 24; (with_reducible refine (rRead.calls g2 B d key n A2 c2 m2 l2 _ HT1.out HM.out HL2.out HY2.out (C_moved HS.out HM1.out HL2.out HR2.out) HC2.out).mono ?_); rw [HRR.out]; rintro e w2 ⟨Ab2, cb2, co2, rfl, hl, ho, hs, hmv⟩; have HT2 := Aside0.mk hs; have HM2 := Aside0.mk hmv; have HS2 : Aside0 (Sess 71 w2 g A c key R.2) := ⟨HS1.out.other HT1.out.1 (by decide) hmv HNE.out⟩; clear hl ho hs hmv))
  go_ret
  exact ⟨rfl, HS2.out, HT2.out, w1, HM1.out, HM2.out⟩
end Go.Proofs.Ytpkmfaloncclaaa.T
