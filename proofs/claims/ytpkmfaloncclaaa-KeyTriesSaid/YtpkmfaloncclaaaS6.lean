/- A key's session: Open and Resume walked. Conditions: as each theorem says. -/
import Derived.Test.YtpkmfaloncclaaaS5
namespace Go.Proofs.Ytpkmfaloncclaaa.T
open Go Go.RowKit Go.Shelf Go.Proofs.Ytpkmfaloncclaaa.K Go.Proofs.Ytpkmfaloncclaaa.Pure Go.Proofs.YtpkmfaloncclaaaW.PrintWords Go.Proofs.YtpkmfaloncclaaaW.PrintLast Go.Proofs.YtpkmfaloncclaaaW.PrintMore Hand
attribute [local go_sem] Oper.semAt_some max2_int min2_int max_two min_two max_three min_three max_four min_four
set_option linter.unusedVariables false
/-- What is answered where a session is made (r: the number and the error). -/
def OpenPost (T : TypeId) (W : World) (key : List Int) (r : Option Int × Int) (e : Ending) (w' : World) : Prop :=
  match r.1 with
  | none => e = .returned (.tuple #[.pointer none, .int .i64 r.2]) ∧ Below W.heap.size W w'
  | some n => ∃ (g : Nat) (A : Option Addr) (c : Nat), e = .returned (.tuple #[.pointer (some ⟨g, 0, none⟩), .int .i64 r.2]) ∧ Sess T w' g A c key n ∧ W.heap.size ≤ g ∧ Below W.heap.size W w'
def openA (key : List Int) : Option Int × Int := if key.length ≠ 32 then (none, 1) else (some 0, 0)
theorem R_keyAt {base c : Nat} {w : World} {ok : Nat → Prop} {A : Option Addr} {key : List Int} (h : Kd.R (Kd.int .u8) 5 w base ok (.slice A 32 c) key) (hl : key.length = 32) : KeyAt w A key := by
  refine ⟨(R_at h).1, ?_⟩
  have ho := Kd.own_of_R (enc := Value.int .u8) (h1 := fun _ => rfl) h
  rcases ho.2 with ⟨hn, _⟩ | ⟨g, cap, cur, hvg, hbg, hg, _⟩
  · omega
  · injection hvg with h1 h2 h3
    subst h1
    exact ⟨_, rfl, _, _, hg⟩
theorem Sess.alloc {T : TypeId} {base c : Nat} {w : World} {ok : Nat → Prop} {A : Option Addr} {key : List Int} (h : Kd.R (Kd.int .u8) 5 w base ok (.slice A 32 c) key) (hl : key.length = 32) (hk : ByteL key) : Sess T (w.alloc (.cells #[.slice A 32 c, .int .i64 0] T)) w.heap.size A c key 0 :=
  ⟨heap_alloc_new w _, (R_keyAt h hl).below (below_alloc (Below.refl _ _) _), (R_at h).2, ⟨by decide, by decide⟩, hk, hl⟩
set_option maxHeartbeats 8000000 in
set_option maxRecDepth 100000 in
theorem kOpen.calls (A0 : Option Addr) (c0 m0 : Nat) (key : List Int) (w : World) (hl : key.length = m0) (hm : m0 ≤ 140737488351232) (hk : ByteL key) (hr : Kd.C (Kd.int .u8) w A0 m0 key) :
    Calls Try.prog 18 #[.slice A0 m0 c0] w (OpenPost 71 w key (openA key)) := by
  have HL := Aside0.mk hl
  have HK := Aside0.mk hk
  have HR := Aside0.mk hr
  by_cases h : m0 = 32
  · have e : openA key = (some 0, 0) := by unfold openA; rw [if_neg (by omega)]
    rw [e]
    subst h
    clear hl hk hr e
    go_enter Try.func18, Try.ntmps18
    go_wp2_with (go_at_call 43; (with_reducible refine (clone.calls A0 c0 32 key _ HR.out (by decide)).mono ?_); rintro e w1 ⟨v1, rfl, ho, hb⟩; obtain ⟨A1, c1, e1⟩ := Kd.R_slice ho; rw [HL.out] at e1; subst e1; have HO1 := Aside0.mk ho; have HB1 := Aside0.mk hb; clear ho hb)
    go_ret2
    exact ⟨w1.heap.size, A1, c1, rfl, Sess.alloc HO1.out HL.out HK.out, HB1.out.size, below_alloc HB1.out _⟩
  · have e : openA key = (none, 1) := by unfold openA; rw [if_pos (by omega)]
    rw [e]
    have b1 : ((m0 : Int) == 32) = false := beq_eq_false_iff_ne.2 (by omega)
    have b2 : ((m0 : Int) != 32) = true := bne_iff_ne.2 (by omega)
    clear hl hk hr e
    go_enter Try.func18, Try.ntmps18
    go_wp2
    go_ret2
    exact ⟨rfl, Below.refl _ _⟩
theorem get_hi.calls (A : Option Addr) (c m : Nat) (l : List Int) (w : World) (hr : Kd.C (Kd.int .u8) w A m l) (hc : m ≤ c) (hb : ByteL l) (hl : m ≤ 4) :
    Calls Try.prog 52 #[.slice A m c, .bool false] w fun e w' => e = .returned (.int .u64 (beV l)) ∧ Drawn0 w w' := by
  have hlen : l.length = m := hr.1
  subst hlen
  exact wide_Get.calls _ A c l false _ w hr hc (get_hi l hb hl)
set_option maxHeartbeats 8000000 in
set_option maxRecDepth 100000 in
theorem kResume.calls (A0 : Option Addr) (c0 m0 : Nat) (key : List Int) (A1 : Option Addr) (c1 m1 : Nat) (t : List Int) (w : World) (hl : key.length = m0) (hm : m0 ≤ 140737488351232) (hk : ByteL key) (hr : Kd.C (Kd.int .u8) w A0 m0 key) (hl1 : t.length = m1) (hm1 : m1 ≤ 140737488351232) (hk1 : ByteL t) (hr1 : Kd.C (Kd.int .u8) w A1 m1 t) (hc1 : m1 ≤ c1) :
    Calls Try.prog 31 #[.slice A0 m0 c0, .slice A1 m1 c1] w (OpenPost 71 w key (resumeA key t)) := by
  have HL := Aside0.mk hl
  have HK := Aside0.mk hk
  have HR := Aside0.mk hr
  have HM := Aside0.mk hm
  unfold resumeA
  by_cases h : key.length ≠ 32
  · have e : openA key = (none, 1) := by unfold openA; rw [if_pos h]
    rw [if_pos h]
    have HOA := Aside0.mk e
    clear hl hk hr hl1 hk1 hr1 hm hm1 hc1 e
    go_enter Try.func31, Try.ntmps31
    go_wp2_with (go_at_call 18; (with_reducible refine (kOpen.calls A0 c0 m0 key _ HL.out HM.out HK.out HR.out).mono ?_); rw [HOA.out]; rintro e w1 ⟨rfl, hb⟩; have HB1 := Aside0.mk hb; clear hb)
    go_ret2
    exact ⟨rfl, HB1.out⟩
  have e : openA key = (some 0, 0) := by unfold openA; rw [if_neg h]
  have HOA := Aside0.mk e
  rw [if_neg h, hl1]
  by_cases h2 : m1 ≠ 20
  · rw [if_pos h2]
    have b1 : ((m1 : Int) == 20) = false := beq_eq_false_iff_ne.2 (by omega)
    have b2 : ((m1 : Int) != 20) = true := bne_iff_ne.2 (by omega)
    clear hl hk hr hl1 hk1 hr1 hm hm1 hc1 e h
    go_enter Try.func31, Try.ntmps31
    go_wp2_with (go_at_call 18; (with_reducible refine (kOpen.calls A0 c0 m0 key _ HL.out HM.out HK.out HR.out).mono ?_); rw [HOA.out]; rintro e w1 ⟨g, A2, c2, rfl, hs, hg, hb⟩; have HB1 := Aside0.mk hb; clear hb)
    go_ret2
    exact ⟨rfl, HB1.out⟩
  have e20 : m1 = 20 := by omega
  subst e20
  rw [if_neg h2]
  obtain ⟨cutT, hCT⟩ := cut_to A1 c1 20 t hl1 hc1 4 (by decide)
  rw [show ((4 : Nat) : Int) = 4 from rfl] at cutT
  have HCT := Aside0.mk hCT
  have HYT : Aside0 (ByteL (t.take 4)) := ⟨byteL_take hk1 4⟩
  have hN := beV_bd t hk1 4 (by decide) (by omega)
  obtain ⟨N, hNe⟩ : ∃ N, beV (t.take 4) = N := ⟨_, rfl⟩
  rw [hNe] at hN
  rw [hNe]
  have HNe := Aside0.mk hNe
  have HN : Aside0 (0 ≤ N ∧ N < 4294967296) := ⟨⟨hN.1, hN.2.1⟩⟩
  have n0 := hN.1
  have n1 := hN.2.1
  have HR1 := Aside0.mk hr1
  have HC1 : Aside0 (20 ≤ c1 ∧ 4 ≤ c1) := ⟨hc1, by omega⟩
  clear hl hk hr hl1 hk1 hr1 hm hm1 hc1 e h h2 hCT hN hNe
  obtain ⟨E, hE⟩ : ∃ E, eqB (tickOf key N) t = E := ⟨_, rfl⟩
  rw [hE]
  cases E with
  | false =>
    rw [if_neg (by decide)]
    have HE := Aside0.mk hE
    clear hE
    go_enter Try.func31, Try.ntmps31
    go_wp2_with (first
      | (go_at_call 18; (with_reducible refine (kOpen.calls A0 c0 m0 key _ HL.out HM.out HK.out HR.out).mono ?_); rw [HOA.out]; rintro e w1 ⟨g, A2, c2, rfl, hs, hg, hb⟩; have HS1 := Aside0.mk hs; have HG := Aside0.mk hg; have HB1 := Aside0.mk hb; clear hs hg hb)
      | (go_at_call 52; (with_reducible refine (get_hi.calls A1 c1 4 (t.take 4) _ (HCT.out _ (Kd.C_below HR1.out HB1.out)) HC1.out.2 HYT.out (by decide)).mono ?_); rw [HNe.out]; rintro e w2 ⟨rfl, hd⟩; obtain ⟨nd, rfl⟩ := hd.out; have HS2 := Aside0.mk (HS1.out.drewN nd); have k1 := HS2.out.c1; have f1 := HS2.out.fz 1))
    obtain ⟨W3, hW3⟩ : ∃ W3, (w1.drewN nd).setCell ⟨g, 1, none⟩ (.int .i64 N) = W3 := ⟨_, rfl⟩
    have HS3 : Aside0 (Sess 71 W3 g A2 c2 key N) := ⟨by rw [← hW3]; exact HS2.out.set (by decide) ⟨by omega, by omega⟩⟩
    have HB3 : Aside0 (Below w.heap.size w W3) := ⟨by rw [← hW3]; exact below_set (pw_below_drewN HB1.out nd) HG.out⟩
    rw [hW3]
    clear hW3 k1 f1
    go_region_held3 (fun w' => w'.cell? ⟨g, 0, none⟩ = some (.slice A2 32 c2) ∧ w'.cell? ⟨g, 1, none⟩ = some (.int .i64 N)) (first | exact ⟨(HS3.out.below HB4.out).c0, (HS3.out.below HB4.out).c1⟩ | exact ⟨HS3.out.c0, HS3.out.c1⟩) (first
      | (go_at_call 50; (with_reducible refine (kticket.calls A2 c2 key N _ HN.out HS3.out.kb HS3.out.len (Kd.C_drew HS3.out.kc) HS3.out.cap).mono ?_); rintro e w4 ⟨A4, c4, rfl, ho, hb⟩; have HO4 := Aside0.mk ho; have HB4 := Aside0.mk (bel_d hb); clear ho hb)
      | (go_at_call 46; (with_reducible refine (equal.callsm A4 c4 20 (tickOf key N) A1 c1 20 t _ (R_at HO4.out).1 (R_at HO4.out).2 (Kd.C_below (Kd.C_below HR1.out HB3.out) HB4.out) HC1.out.1).mono ?_); rw [HE.out]; rintro e w5 ⟨rfl, hd⟩; obtain ⟨nd2, rfl⟩ := hd.out))
    have HS5 : Aside0 (Sess 71 (w4.drewN nd2) g A2 c2 key N) := ⟨(HS3.out.below HB4.out).drewN nd2⟩
    have HB5 : Aside0 (Below w.heap.size w (w4.drewN nd2)) := ⟨pw_below_drewN (HB3.out.trans (HB4.out.mono HB3.out.size)) nd2⟩
    go_wp2
    go_ret2
    exact ⟨rfl, HB5.out⟩
  | true =>
    rw [if_pos rfl]
    have HE := Aside0.mk hE
    clear hE
    go_enter Try.func31, Try.ntmps31
    go_wp2_with (first
      | (go_at_call 18; (with_reducible refine (kOpen.calls A0 c0 m0 key _ HL.out HM.out HK.out HR.out).mono ?_); rw [HOA.out]; rintro e w1 ⟨g, A2, c2, rfl, hs, hg, hb⟩; have HS1 := Aside0.mk hs; have HG := Aside0.mk hg; have HB1 := Aside0.mk hb; clear hs hg hb)
      | (go_at_call 52; (with_reducible refine (get_hi.calls A1 c1 4 (t.take 4) _ (HCT.out _ (Kd.C_below HR1.out HB1.out)) HC1.out.2 HYT.out (by decide)).mono ?_); rw [HNe.out]; rintro e w2 ⟨rfl, hd⟩; obtain ⟨nd, rfl⟩ := hd.out; have HS2 := Aside0.mk (HS1.out.drewN nd); have k1 := HS2.out.c1; have f1 := HS2.out.fz 1))
    obtain ⟨W3, hW3⟩ : ∃ W3, (w1.drewN nd).setCell ⟨g, 1, none⟩ (.int .i64 N) = W3 := ⟨_, rfl⟩
    have HS3 : Aside0 (Sess 71 W3 g A2 c2 key N) := ⟨by rw [← hW3]; exact HS2.out.set (by decide) ⟨by omega, by omega⟩⟩
    have HB3 : Aside0 (Below w.heap.size w W3) := ⟨by rw [← hW3]; exact below_set (pw_below_drewN HB1.out nd) HG.out⟩
    rw [hW3]
    clear hW3 k1 f1
    go_region_held3 (fun w' => w'.cell? ⟨g, 0, none⟩ = some (.slice A2 32 c2) ∧ w'.cell? ⟨g, 1, none⟩ = some (.int .i64 N)) (first | exact ⟨(HS3.out.below HB4.out).c0, (HS3.out.below HB4.out).c1⟩ | exact ⟨HS3.out.c0, HS3.out.c1⟩) (first
      | (go_at_call 50; (with_reducible refine (kticket.calls A2 c2 key N _ HN.out HS3.out.kb HS3.out.len (Kd.C_drew HS3.out.kc) HS3.out.cap).mono ?_); rintro e w4 ⟨A4, c4, rfl, ho, hb⟩; have HO4 := Aside0.mk ho; have HB4 := Aside0.mk (bel_d hb); clear ho hb)
      | (go_at_call 46; (with_reducible refine (equal.callsm A4 c4 20 (tickOf key N) A1 c1 20 t _ (R_at HO4.out).1 (R_at HO4.out).2 (Kd.C_below (Kd.C_below HR1.out HB3.out) HB4.out) HC1.out.1).mono ?_); rw [HE.out]; rintro e w5 ⟨rfl, hd⟩; obtain ⟨nd2, rfl⟩ := hd.out))
    have HS5 : Aside0 (Sess 71 (w4.drewN nd2) g A2 c2 key N) := ⟨(HS3.out.below HB4.out).drewN nd2⟩
    have HB5 : Aside0 (Below w.heap.size w (w4.drewN nd2)) := ⟨pw_below_drewN (HB3.out.trans (HB4.out.mono HB3.out.size)) nd2⟩
    go_wp2
    go_ret2
    exact ⟨g, A2, c2, rfl, HS5.out, HG.out, HB5.out⟩
end Go.Proofs.Ytpkmfaloncclaaa.T
