/- The statement KeyLogs, walked: whatever the input, true. Conditions: the library's tables stand. -/
import Derived.Test.YtbdakgkjomanlaaDoorF7
import Derived.Test.YtbdakgkjomanlaaDoorDx3
import Derived.Test.YtbdakgkjomanlaaDoorDx7
import Derived.Test.YtbdakgkjomanlaaDoorDx8
namespace Go.Proofs.YtbdakgkjomanlaaDoor.Pure
open Go.RowKit Go.Shelf Go.Proofs.YtbdakgkjomanlaaDoor.D Go.Proofs.YtbdakgkjomanlaaDoor.Hand Go.Proofs.YtbdakgkjomanlaaDoorW.PrintWords Go.Proofs.YtbdakgkjomanlaaDoorW.PrintLast Go.Proofs.YtbdakgkjomanlaaDoorW.PrintMore
attribute [local go_sem] max2_int min2_int max_two min_two max_three min_three max_four min_four
set_option linter.unusedVariables false
/-- The last secret of a label, among the first n. -/
def findF (L : List S33) (t : ByteArray) : Nat → List Int × Bool
  | 0 => ([], false)
  | n + 1 => if (rd_T33 L (n : Int)).f0.toList = t.toList then ((rd_T33 L (n : Int)).f1, true) else findF L t n
/-- Secrets that a text gives. -/
def Fine (L : List S33) : Prop := L.length ≤ 200000 ∧ ∀ i : Nat, (rd_T33 L (i : Int)).f1.length ≤ 200
theorem findB_from (L : List S33) (t : ByteArray) (hL : Fine L) : ∀ n : Nat, n ≤ L.length → Ev (fun k => key_Find.l0 k L t (wrap64 ((n : Int) - 1))) (findF L t n)
  | 0, _ => by
    have e : wrap64 (((0 : Nat) : Int) - 1) = -1 := by rw [w64 (by omega) (by omega)]; rfl
    exact Ev.step (f := fun _ => some ([], false)) (fun k => by rw [e, key_Find.l0, if_neg (by omega)]) (Ev.now _)
  | n + 1, h => by
    have h0 := hL.1
    have h1 := hL.2 n
    have e : wrap64 (((n + 1 : Nat) : Int) - 1) = (n : Int) := by rw [w64 (by omega) (by omega)]; omega
    rw [e, findF]
    by_cases c : (rd_T33 L (n : Int)).f0.toList = t.toList
    · rw [if_pos c]
      exact Ev.step (f := fun _ => some ([] ++ (rd_T33 L (n : Int)).f1, true)) (fun k => by rw [key_Find.l0, if_pos (by omega), if_pos (by omega), if_pos (by omega), if_pos c, if_pos (by rw [List.length_nil]; omega)]) (Ev.now _)
    · rw [if_neg c]
      exact Ev.step (fun k => by rw [key_Find.l0, if_pos (by omega), if_pos (by omega), if_pos (by omega), if_neg c]) (findB_from L t hL n (by omega))
theorem findR_from (L : List S33) (t : ByteArray) (hL : Fine L) : ∀ n : Nat, n ≤ L.length → Ev (fun k => wireglassref21_Find.l0 k L t (wrap64 ((n : Int) - 1))) (findF L t n)
  | 0, _ => by
    have e : wrap64 (((0 : Nat) : Int) - 1) = -1 := by rw [w64 (by omega) (by omega)]; rfl
    exact Ev.step (f := fun _ => some ([], false)) (fun k => by rw [e, wireglassref21_Find.l0, if_neg (by omega)]) (Ev.now _)
  | n + 1, h => by
    have h0 := hL.1
    have e : wrap64 (((n + 1 : Nat) : Int) - 1) = (n : Int) := by rw [w64 (by omega) (by omega)]; omega
    rw [e, findF]
    by_cases c : (rd_T33 L (n : Int)).f0.toList = t.toList
    · rw [if_pos c]
      exact Ev.step (f := fun _ => some ((rd_T33 L (n : Int)).f1, true)) (fun k => by rw [wireglassref21_Find.l0, if_pos (by omega), if_pos (by omega), if_pos (by omega), if_pos c]) (Ev.now _)
    · rw [if_neg c]
      exact Ev.step (fun k => by rw [wireglassref21_Find.l0, if_pos (by omega), if_pos (by omega), if_pos (by omega), if_neg c]) (findR_from L t hL n (by omega))
theorem secs_from (L : List S33) (hL : L.length ≤ 200000) : ∀ (d i : Nat), i + d = L.length → Ev (fun k => wireglasslaw21_secrets.l0 k L L (i : Int)) true
  | 0, i, h => Ev.step (f := fun _ => some true) (fun k => by rw [wireglasslaw21_secrets.l0, if_neg (by omega)]) (Ev.now _)
  | d + 1, i, h => by
    have e1 : wrap64 ((i : Int) + 1) = ((i + 1 : Nat) : Int) := by rw [w64 (by omega) (by omega)]; omega
    exact Ev.step (fun k => by rw [wireglasslaw21_secrets.l0, if_pos (by omega), if_pos (by omega), if_pos (by omega), if_pos rfl, if_pos rfl, e1]) (secs_from L hL d (i + 1) (by omega))
theorem secs_ev (L : List S33) (hL : L.length ≤ 200000) : Ev (fun k => wireglasslaw21_secrets.f k L L) true := by
  unfold wireglasslaw21_secrets.f
  exact Ev.if_pos rfl (secs_from L hL L.length 0 (by omega))
/-- What a text gives is fine. -/
theorem secOf_len {s : ByteArray} (h : (secOf s).2.2 = true) : (secOf s).2.1.length ≤ 200 := by
  unfold secOf at h ⊢
  split
  · simp
  · next h1 =>
    rw [if_neg h1] at h
    split
    · simp
    · next h2 =>
      rw [if_neg h2] at h
      have h3 : (decide ((unhexS (digOf s)).2 = 0) && (txtOk (unhexS (digOf s)).1 && decide (strOfNums (hexN (unhexS (digOf s)).1) = digOf s))) = true := h
      rw [Bool.and_eq_true, Bool.and_eq_true] at h3
      have h4 := h3.2.1
      unfold txtOk at h4
      rw [Bool.and_eq_true] at h4
      exact of_decide_eq_true h4.2
theorem logStep_mem {L L2 : List S33} {row : ByteArray} (h : logStep L row = some L2) (hL : ∀ x ∈ L, x.f1.length ≤ 200) : ∀ x ∈ L2, x.f1.length ≤ 200 := by
  unfold logStep at h
  split at h
  · injection h with h; subst h; exact hL
  · split at h
    · next h2 =>
      injection h with h
      subst h
      intro x hx
      rcases List.mem_append.1 hx with hx | hx
      · exact hL x hx
      · rw [List.mem_singleton.1 hx]
        exact secOf_len h2
    · cases h
theorem logF_mem : ∀ (ls : List ByteArray) (L : List S33) (n : Nat), (∀ x ∈ L, x.f1.length ≤ 200) → (logF L n ls).1.length ≤ 60 ∧ ∀ x ∈ (logF L n ls).1, x.f1.length ≤ 200
  | [], L, n, h => by
    rw [logF]
    split
    · exact ⟨Nat.zero_le _, fun x hx => by simp at hx⟩
    · next h1 => exact ⟨by show L.length ≤ 60; omega, h⟩
  | l :: r, L, n, h => by
    rw [logF]
    cases hc : logStep L (trimL l) with
    | none => exact ⟨Nat.zero_le _, fun x hx => by simp at hx⟩
    | some L2 => exact logF_mem r L2 (n + 1) (logStep_mem hc h)
theorem logS_fine {s : ByteArray} {L : List S33} {n e : Int} (h : LogS s (L, n, e)) : Fine L := by
  have hm : L.length ≤ 60 ∧ ∀ x ∈ L, x.f1.length ≤ 200 := by
    unfold LogS at h
    split at h
    · injection h with h _
      subst h
      exact ⟨Nat.zero_le _, fun x hx => by simp at hx⟩
    · obtain ⟨ls, _, hu⟩ := h
      have := logF_mem ls [] 0 (fun x hx => by simp at hx)
      rw [← hu] at this
      exact this
  refine ⟨by omega, fun i => ?_⟩
  unfold rd_T33
  rw [Int.toNat_natCast, List.getD_eq_getElem?_getD]
  cases hi : L[i]? with
  | none => exact Nat.zero_le _
  | some x => exact hm.2 x (List.mem_of_getElem? hi)
/-! ### the calls -/
def SecsAt (A : Option Addr) (c : Nat) (L : List S33) (W : World) : Prop := L.length ≤ c ∧ Kd.C k33 W A L.length L
def NumsAt (A : Option Addr) (n c : Nat) (l : List Int) (W : World) : Prop := n = l.length ∧ n ≤ c ∧ Kd.C (Kd.int .u8) W A n l
theorem SecsAt.move {A : Option Addr} {c : Nat} {L : List S33} {W W' : World} (h : SecsAt A c L W) (hb : Below W.heap.size W W') : SecsAt A c L W' := ⟨h.1, Kd.C_below h.2 hb⟩
theorem NumsAt.move {A : Option Addr} {n c : Nat} {l : List Int} {W W' : World} (h : NumsAt A n c l W) (hb : Below W.heap.size W W') : NumsAt A n c l W' := ⟨h.1, h.2.1, Kd.C_below h.2.2 hb⟩
theorem lawB1 (s : ByteArray) (W : World) (hT : Tabs W) : Calls Tryd.prog 6 #[.string s] W fun e w' => ∃ A m c n er L, e = .returned (.tuple #[.slice A m c, .int .i64 n, .int .i64 er]) ∧ m = L.length ∧ SecsAt A c L w' ∧ LogS s (L, n, er) ∧ Below W.heap.size W w' := by
  refine (blog.calls s W hT).mono ?_
  rintro e w' ⟨v, L, n, er, rfl, hR, hb, hl⟩
  obtain ⟨A, c, rfl⟩ := Kd.R_slice hR
  exact ⟨A, _, c, n, er, L, rfl, rfl, ⟨(Kd.R_reads' hR).2.1, (Kd.R_reads' hR).2.2⟩, hl, hb⟩
theorem lawR1 (s : ByteArray) (W : World) (L : List S33) (n er : Int) (hl : LogS s (L, n, er)) : Calls Tryd.prog 7 #[.string s] W fun e w' => ∃ A m c, e = .returned (.tuple #[.slice A m c, .int .i64 n, .int .i64 er]) ∧ m = L.length ∧ Kd.S k33 33 w' W.heap.size (fun _ => True) (.slice A m c) L ∧ Below W.heap.size W w' := by
  obtain ⟨k, hk⟩ := (refLog_ev hl).rounds
  refine (wireglassref21_Log.calls k s L n er W hk).mono ?_
  rintro e w' ⟨v, rfl, hS, hb⟩
  obtain ⟨A, c, rfl⟩ := Kd.S_slice hS
  exact ⟨A, _, c, rfl, rfl, hS, hb⟩
theorem lawB2 (A : Option Addr) (m c : Nat) (L : List S33) (t : ByteArray) (W : World) (hm : m = L.length) (hA : SecsAt A c L W) (hF : Fine L) (r1 : List Int) (r2 : Bool) (hr : findF L t L.length = (r1, r2)) :
    Calls Tryd.prog 8 #[.slice A m c, .string t] W fun e w' => ∃ A2 n2 c2, e = .returned (.tuple #[.slice A2 n2 c2, .bool r2]) ∧ NumsAt A2 n2 c2 r1 w' ∧ Below W.heap.size W w' := by
  subst hm
  obtain ⟨k, hk⟩ := (findB_from L t hF L.length (Nat.le_refl _)).rounds
  rw [hr] at hk
  refine (key_Find.calls k A c L t r1 r2 W hA.2 hA.1 hk).mono ?_
  rintro e w' ⟨v, rfl, hR, hb⟩
  obtain ⟨A2, c2, rfl⟩ := Kd.R_slice hR
  exact ⟨A2, _, c2, rfl, ⟨rfl, (Kd.R_reads' hR).2.1, (Kd.R_reads' hR).2.2⟩, hb⟩
theorem lawR2 (A : Option Addr) (m c : Nat) (L : List S33) (t : ByteArray) (W : World) (base : Nat) (hm : m = L.length) (hS : Kd.S k33 33 W base (fun _ => True) (.slice A m c) L) (hF : Fine L) (r1 : List Int) (r2 : Bool) (hr : findF L t L.length = (r1, r2)) :
    Calls Tryd.prog 9 #[.slice A m c, .string t] W fun e w' => ∃ A2 n2 c2, e = .returned (.tuple #[.slice A2 n2 c2, .bool r2]) ∧ NumsAt A2 n2 c2 r1 w' ∧ Below W.heap.size W w' := by
  subst hm
  obtain ⟨k, hk⟩ := (findR_from L t hF L.length (Nat.le_refl _)).rounds
  rw [hr] at hk
  refine (wireglassref21_Find.calls k (fun _ => True) A c L t r1 r2 W (Kd.S_V hS) hk).mono ?_
  rintro e w' ⟨v, rfl, hV, hb⟩
  obtain ⟨A2, c2, rfl⟩ := Kd.V_slice hV
  exact ⟨A2, _, c2, rfl, ⟨rfl, (Kd.V_reads' hV).2.1, (Kd.V_reads' hV).2.2⟩, hb⟩
theorem secs_rd {A : Option Addr} {m c : Nat} {L : List S33} {W : World} {base : Nat} (hm : m = L.length) (hS : Kd.S k33 33 W base (fun _ => True) (.slice A m c) L) : SecsAt A c L W := by
  subst hm
  exact ⟨(Kd.S_reads' hS).2.1, (Kd.S_reads' hS).2.2⟩
theorem lawS (A1 A2 : Option Addr) (m1 c1 m2 c2 : Nat) (L : List S33) (W : World) (h1 : m1 = L.length) (h2 : m2 = L.length) (hA1 : SecsAt A1 c1 L W) (hA2 : SecsAt A2 c2 L W) (hF : Fine L) :
    Calls Tryd.prog 10 #[.slice A1 m1 c1, .slice A2 m2 c2] W fun e w' => e = .returned (.bool true) ∧ Below W.heap.size W w' := by
  subst h1
  subst h2
  obtain ⟨k, hk⟩ := (secs_ev L hF.1).rounds
  refine (wireglasslaw21_secrets.calls k A1 c1 L A2 c2 L true W hA1.2 hA1.1 hA2.2 hA2.1 hk).mono ?_
  rintro e w' ⟨rfl, hd⟩
  exact ⟨rfl, hd.below⟩
end Go.Proofs.YtbdakgkjomanlaaDoor.Pure
namespace Go.Proofs.YtbdakgkjomanlaaDoor.Pure
open Go.RowKit Go.Shelf Go.Proofs.YtbdakgkjomanlaaDoor.D Go.Proofs.YtbdakgkjomanlaaDoor.Hand Go.Proofs.YtbdakgkjomanlaaDoorW.PrintWords Go.Proofs.YtbdakgkjomanlaaDoorW.PrintLast Go.Proofs.YtbdakgkjomanlaaDoorW.PrintMore
attribute [local go_sem] max2_int min2_int max_two min_two max_three min_three max_four min_four
set_option linter.unusedVariables false
theorem knownK.calls (W : World) : Calls Tryd.prog 5 #[] W fun e w' => e = .returned (.bool true) ∧ Below W.heap.size W w' := by
  refine (wireglasslaw21_known.calls true W rfl).mono ?_
  rintro e w' ⟨rfl, hb⟩
  first | exact ⟨rfl, hb.below⟩ | exact ⟨rfl, hb⟩
theorem law_tl {W A B : World} (h : Below W.heap.size W A) (hb : Below A.heap.size A B) : Below W.heap.size W B := h.trans (hb.mono h.size)
theorem nums_cv {A : Option Addr} {n c : Nat} {l : List Int} {W : World} (h : NumsAt A n c l W) (m : Nat) : (convert 27 9 (.slice A n c)).run Tryd.prog (W.drewN m) = .ok (.string (strOfNums l)) (W.drewN m) := by
  obtain ⟨rfl, h2, h3⟩ := h
  exact Kd.C_string (P := Tryd.prog) (A := A) (c := c) Tryd.underlying27 Tryd.underlying5 Tryd.underlying9 (Kd.C_drewN h3 m)
theorem nums_cv0 {A : Option Addr} {n c : Nat} {l : List Int} {W : World} (h : NumsAt A n c l W) : (convert 27 9 (.slice A n c)).run Tryd.prog W = .ok (.string (strOfNums l)) W := by
  obtain ⟨rfl, h2, h3⟩ := h
  exact Kd.C_string (P := Tryd.prog) (A := A) (c := c) Tryd.underlying27 Tryd.underlying5 Tryd.underlying9 h3
set_option maxHeartbeats 4000000 in
set_option maxRecDepth 100000 in
theorem KeyLogs.walk0 (s t : ByteArray) (W : World) (hT : Tabs W) (hs : s.size ≤ 140737488351232) (ht : t.size ≤ 140737488351232) : Calls Tryd.prog 3 #[.string s, .string t] W fun e w' => e = .returned (.bool true) ∧ Below W.heap.size W w' := by
  have i9 : wrap64 ((s.size : Int) + (t.size : Int)) = (s.size : Int) + (t.size : Int) := w64 (by omega) (by omega)
  have i8 : IntKind.i64.wrap ((s.size : Int) + (t.size : Int)) = (s.size : Int) + (t.size : Int) := (i64_w _).trans i9
  have HT := Aside0.mk hT
  by_cases c : 200000 < s.size + t.size
  · have g1 : decide (200000 < (s.size : Int) + (t.size : Int)) = true := decide_eq_true (by omega)
    have g2 : decide (200000 < s.size + t.size) = true := decide_eq_true c
    clear hs ht c hT
    go_enter Tryd.func3, Tryd.ntmps3
    go_wp2_with (go_at_call 5; (with_reducible refine (knownK.calls _).mono ?_); rintro e W1 ⟨rfl, hb⟩; have HS := Aside0.mk hb; clear hb)
    go_ret
    exact ⟨rfl, HS.out⟩
  · have g1 : decide (200000 < (s.size : Int) + (t.size : Int)) = false := decide_eq_false (by omega)
    have g2 : decide (200000 < s.size + t.size) = false := decide_eq_false c
    clear hs ht c hT
    go_enter Tryd.func3, Tryd.ntmps3
    go_wp2_with (first
      | (go_at_call 6; (with_reducible refine (lawB1 s _ HT.out).mono ?_); rintro e W1 ⟨A1, m1, c1, n1, e1, L, rfl, hm1, h1, hl, hb⟩; have HM1 := Aside0.mk hm1; have H1 := Aside0.mk h1; have HL := Aside0.mk hl; have HF := Aside0.mk (logS_fine hl); have HS1 := Aside0.mk hb; obtain ⟨r1, r2, hr⟩ : ∃ r1 r2, findF L t L.length = (r1, r2) := ⟨_, _, rfl⟩; have HR := Aside0.mk hr; clear hb hm1 h1 hl hr)
      | (go_at_call 7; (with_reducible refine (lawR1 s _ L n1 e1 HL.out).mono ?_); rintro e W2 ⟨A2, m2, c2, rfl, hm2, h2, hb⟩; have HM2 := Aside0.mk hm2; have H2 := Aside0.mk h2; have H12 := Aside0.mk (H1.out.move hb); have HS2 := Aside0.mk (law_tl HS1.out hb); clear hb hm2 h2)
      | (go_at_call 8; (with_reducible refine (lawB2 A2 m2 c2 L t _ HM2.out (secs_rd HM2.out H2.out) HF.out r1 r2 HR.out).mono ?_); rintro e W3 ⟨A3, n3, c3, rfl, h3, hb⟩; have H3 := Aside0.mk h3; have H13 := Aside0.mk (H12.out.move hb); have H23 := Aside0.mk (Kd.S_below H2.out hb); have HS3 := Aside0.mk (law_tl HS2.out hb); clear hb h3)
      | (go_at_call 9; (with_reducible refine (lawR2 A2 m2 c2 L t _ _ HM2.out H23.out HF.out r1 r2 HR.out).mono ?_); rintro e W4 ⟨A4, n4, c4, rfl, h4, hb⟩; have H4 := Aside0.mk h4; have H34 := Aside0.mk (H3.out.move hb); have H14 := Aside0.mk (H13.out.move hb); have H24 := Aside0.mk (Kd.S_below H23.out hb); have HS4 := Aside0.mk (law_tl HS3.out hb); clear hb h4)
      | (go_at_call 10; (with_reducible refine (lawS A1 A2 m1 c1 m2 c2 L _ HM1.out HM2.out H14.out (secs_rd HM2.out H24.out) HF.out).mono ?_); rintro e W5 ⟨rfl, hb⟩; have H35 := Aside0.mk (H34.out.move hb); have H45 := Aside0.mk (H4.out.move hb); have HS5 := Aside0.mk (law_tl HS4.out hb); have hcv3 := nums_cv0 H35.out; have hcv4 := nums_cv0 H45.out; clear hb)
      | (go_at_call 5; (with_reducible refine (knownK.calls _).mono ?_); rintro e W6 ⟨rfl, hb⟩; have HS6 := Aside0.mk (law_tl HS5.out hb); clear hb))
    go_ret
    exact ⟨rfl, HS6.out⟩
end Go.Proofs.YtbdakgkjomanlaaDoor.Pure
