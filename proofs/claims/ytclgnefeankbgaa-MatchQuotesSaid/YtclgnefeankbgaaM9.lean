/- What stands between brackets. Conditions: as each theorem says. -/
import Derived.Test.YtclgnefeankbgaaM7
import Derived.Test.YtclgnefeankbgaaShelf
namespace Go.Proofs.Ytclgnefeankbgaa.M
open Go Go.RowKit Go.Proofs.YtclgnefeankbgaaW.PrintWords Go.Proofs.YtclgnefeankbgaaW.PrintLast Go.Proofs.YtclgnefeankbgaaW.PrintMore Hand
attribute [local go_sem] Oper.semAt_some max2_int min2_int max_two min_two max_three min_three max_four min_four
set_option linter.unusedVariables false
set_option linter.unusedSimpArgs false
set_option maxHeartbeats 4000000 in
theorem see.q (g p : Nat) (s : ByteArray) (fold : Bool) (W : World) (h : RS W g s p fold) : Calls Try.prog 79 #[.pointer (some ⟨g, 0, none⟩)] W fun e w' => e = .returned (.int .u8 (seeP s p)) ∧ ∃ m, w' = W.drewN m := by
  have k0 : W.cell? ⟨g, 0, none⟩ = some (.string s) := (blk_cell h 0).trans rfl
  have k1 : W.cell? ⟨g, 1, none⟩ = some (.int .i64 (p : Int)) := (blk_cell h 1).trans rfl
  clear h
  by_cases c : p < s.size
  · have HE : Aside0 (seeP s p = bt s (p : Int)) := ⟨if_pos c⟩
    have p0 : (0 : Int) ≤ (p : Int) := by omega
    have p1 : (p : Int) < (s.size : Int) := by omega
    go_enter Try.func79, Try.ntmps79
    go_wp2
    go_quiet (fail)
    have hd : ∃ m, W.drewN nq = W.drewN m := ⟨nq, rfl⟩
    go_wp2
    go_quiet (fail)
    go_wp2
    go_ret
    exact ⟨by rw [HE.out, bt_at c]; rfl, _, World.drewN_drewN _ _ _⟩
  · have HE : Aside0 (seeP s p = 0) := ⟨if_neg c⟩
    go_enter Try.func79, Try.ntmps79
    go_wp2
    go_quiet (fail)
    go_wp2
    go_ret
    exact ⟨by rw [HE.out]; rfl, _, rfl⟩
theorem escR_ok {s : ByteArray} {p q : Nat} {x : C4 × Int × Bool} (hp : p < s.size) (h : escR s p = .ok x q) : p < q ∧ q ≤ s.size ∧ 0 ≤ x.2.1 ∧ x.2.1 ≤ 255 := by
  unfold escR at h
  cases hm : severalP (seeP s (p + 1)) with
  | some c =>
    rw [hm] at h
    have := several_lt hm
    cases h
    exact ⟨by omega, by omega, Int.le_refl 0, (by decide : (0 : Int) ≤ 255)⟩
  | none =>
    rw [hm] at h
    simp only at h
    by_cases t1 : takeP s (p + 1) 110 = true
    · rw [if_pos t1] at h
      have := takeP_lt t1
      cases h
      exact ⟨by omega, by omega, by decide, by decide⟩
    rw [if_neg t1] at h
    by_cases t2 : takeP s (p + 1) 116 = true
    · rw [if_pos t2] at h
      have := takeP_lt t2
      cases h
      exact ⟨by omega, by omega, by decide, by decide⟩
    rw [if_neg t2] at h
    by_cases t3 : takeP s (p + 1) 120 = true
    · rw [if_pos t3] at h
      by_cases n1 : digP (seeP s (p + 1 + 1)) < 0
      · rw [if_pos n1] at h; cases h
      rw [if_neg n1] at h
      by_cases n2 : digP (seeP s (p + 1 + 1 + 1)) < 0
      · rw [if_pos n2] at h; cases h
      rw [if_neg n2] at h
      have h1 := digP_range (seeP_range s (p + 1 + 1)).1 (seeP_range s (p + 1 + 1)).2
      have h2 := digP_range (seeP_range s (p + 1 + 1 + 1)).1 (seeP_range s (p + 1 + 1 + 1)).2
      have h3 := hexV_range (by omega) h1.2 (by omega) h2.2
      have h4 : p + 1 + 1 + 1 < s.size := digP_lt (s := s) (p := p + 1 + 1 + 1) (by omega)
      cases h
      exact ⟨by omega, by omega, h3.1, h3.2⟩
    rw [if_neg t3] at h
    by_cases m : notEsc (seeP s (p + 1))
    · rw [if_pos m] at h; cases h
    rw [if_neg m] at h
    have h1 := seeP_range s (p + 1)
    have h2 : p + 1 < s.size := seeP_lt (fun e => m (.inl (by rw [e]; decide)))
    cases h
    exact ⟨by omega, by omega, h1.1, h1.2⟩
theorem oneR_ok {s : ByteArray} {p q : Nat} {f : Bool} {x : C4 × Int × Bool} (h : oneR s p f = .ok x q) : p < q ∧ q ≤ s.size ∧ 0 ≤ x.2.1 ∧ x.2.1 ≤ 255 := by
  unfold oneR at h
  by_cases c1 : seeP s p < 32 ∨ 126 < seeP s p ∨ seeP s p = 93
  · rw [if_pos c1] at h; cases h
  rw [if_neg c1] at h
  have hlt : p < s.size := seeP_lt (fun e => c1 (.inl (by rw [e]; decide)))
  by_cases c2 : seeP s p = 92
  · rw [if_pos c2] at h
    exact escR_ok hlt h
  rw [if_neg c2] at h
  by_cases c3 : seeP s p = 45 ∧ f = false ∧ seeP s (p + 1) ≠ 93
  · rw [if_pos c3] at h; cases h
  rw [if_neg c3] at h
  have h1 := seeP_range s p
  cases h
  exact ⟨by omega, by omega, h1.1, h1.2⟩
/-- The things between brackets, up to the bracket. -/
def brL (s : ByteArray) : Nat → Nat → Bool → C4 → Rs C4
  | 0, p, _, out => .ok out p
  | n + 1, p, front, out =>
    if front = false ∧ seeP s p = 93 then .ok out p
    else match oneR s p front with
      | .bad k => .bad k
      | .ok x q =>
        if x.2.2 = true ∧ seeP s q = 45 ∧ seeP s (q + 1) ≠ 93 then
          match oneR s (q + 1) false with
          | .bad k => .bad k
          | .ok y q2 => if y.2.2 = false ∨ y.2.1 < x.2.1 then .bad (q + 1) else brL s n q2 false (joinN out (rangeN x.2.1 (y.2.1 - x.2.1 + 1).toNat) 4)
        else brL s n q false (joinN out x.1 4)
def brP (s : ByteArray) (p : Nat) : Nat := if takeP s p 94 = true then p + 1 else p
def brEnd (fold nt : Bool) : Rs C4 → Rs C4
  | .bad k => .bad k
  | .ok out q => .ok (if nt = true then othersN (casedP fold out) 4 else casedP fold out) (q + 1)
def brR (s : ByteArray) (fold : Bool) (p : Nat) : Rs C4 := brEnd fold (takeP s p 94) (brL s (s.size + 1 - brP s p) (brP s p) true C4.nil)
theorem QL.take {g p : Nat} {w W : World} {s : ByteArray} {fold : Bool} {L : List (Nat × C4)} (h : QL g w W s p fold L) (n : Nat) : QL g w W s p fold (L.take n) := ⟨h.lg, h.rs, h.mv, fun i b c hi => h.at_ i b c (by
    rw [List.getElem?_take] at hi
    split at hi
    · exact hi
    · cases hi), by rw [List.map_take]; exact h.nd.sublist (List.take_sublist _ _)⟩
theorem see_prefix (s : ByteArray) (q : Nat) (hq : q ≤ s.size) : Lib.hasPrefix (s.extract q s.size).data.toList [93] = decide (seeP s q = 93) := by
  unfold Lib.hasPrefix
  by_cases c : q < s.size
  · have e1 : seeP s q = ((s[q].toNat : Int)) := (if_pos c).trans (bt_at c)
    have e2 : (s.extract q s.size).data.toList = s[q] :: (s.data.toList.drop (q + 1)) := by
      have h0 : (s.extract q s.size).data.toList = s.data.toList.drop q := by
        have h9 : s.data.toList.length = s.size := rfl
        rw [ByteArray.data_extract, Array.toList_extract, List.extract_eq_take_drop, List.take_of_length_le (by rw [List.length_drop, h9]; omega)]
      rw [h0]
      have h9 : q < s.data.toList.length := c
      rw [List.drop_eq_getElem_cons h9]
      congr 1
    rw [e2, e1]
    have e3 : ([93] : List UInt8).isPrefixOf (s[q] :: s.data.toList.drop (q + 1)) = (93 == s[q]) := by simp [List.isPrefixOf]
    rw [e3]
    by_cases d : s[q] = 93
    · rw [d]; decide
    · have h93 : (93 : UInt8).toNat = 93 := by decide
      have d1 : ((s[q].toNat : Int)) ≠ 93 := fun e => d (UInt8.toNat_inj.1 (by rw [h93]; omega))
      rw [decide_eq_false d1]
      exact beq_eq_false_iff_ne.2 (Ne.symm d)
  · have e1 : seeP s q = 0 := if_neg c
    have e2 : (s.extract q s.size).data.toList = [] := by
      have : q = s.size := by omega
      subst this
      simp
    rw [e2, e1]
    decide
set_option maxHeartbeats 16000000 in
set_option maxRecDepth 100000 in
theorem brackets.calls (g p : Nat) (s : ByteArray) (fold : Bool) (W : World) (h : RS W g s p fold) (hs : s.size ≤ 200) (hp : p ≤ s.size) :
    Calls Try.prog 84 #[.pointer (some ⟨g, 0, none⟩)] W fun e w' => RPost g s fold W (fun c : C4 => .agg c.cells) (brR s fold p) e w' := by
  have HQ := Aside0.mk (QL.nil h)
  obtain ⟨r, hr⟩ : ∃ r, brR s fold p = r := ⟨_, rfl⟩
  rw [hr]
  unfold brR at hr
  have hTK := fun W' (h : RS W' g s p fold) => take.calls g p s fold 94 W' h hs
  have hp1 : brP s p ≤ s.size := by
    unfold brP
    by_cases c : takeP s p 94 = true
    · rw [if_pos c]; exact takeP_lt c
    · rw [if_neg c]; exact hp
  have hbp : (if takeP s p 94 = true then p + 1 else p) = brP s p := rfl
  rw [hbp] at hTK
  obtain ⟨nt, hnt⟩ : ∃ nt, takeP s p 94 = nt := ⟨_, rfl⟩
  obtain ⟨p1, hpp⟩ : ∃ p1, brP s p = p1 := ⟨_, rfl⟩
  rw [hnt, hpp] at hTK hr
  rw [hpp] at hp1
  have HTK := Aside0.mk hTK
  obtain ⟨L, hL⟩ : ∃ L, brL s (s.size + 1 - p1) p1 true C4.nil = L := ⟨_, rfl⟩
  rw [hL] at hr
  have HL := Aside0.mk hL
  have HR := Aside0.mk hr
  have HONE : Aside0 (∀ W' q f c v t q2, RS W' g s q fold → oneR s q f = .ok (c, v, t) q2 → Calls Try.prog 97 #[.pointer (some ⟨g, 0, none⟩), .bool f] W' fun e w' => e = .returned (.tuple #[.agg c.cells, .int .u8 v, .bool t]) ∧ RS w' g s q2 fold ∧ Mv g W' w') := ⟨fun W' q f c v t q2 h1 h2 => (one.calls g q s fold f W' h1 hs).mono fun e w' h => h.ok_elim h2⟩
  have HONB : Aside0 (∀ W' q f n, RS W' g s q fold → oneR s q f = .bad n → Calls Try.prog 97 #[.pointer (some ⟨g, 0, none⟩), .bool f] W' fun e w' => Bad n e ∧ Mv g W' w') := ⟨fun W' q f n h1 h2 => (one.calls g q s fold f W' h1 hs).mono fun e w' h => h.bad_elim h2⟩
  have HWG : Aside0 (∀ W' q, RS W' g s q fold → takeP s q 93 = true → Calls Try.prog 83 #[.pointer (some ⟨g, 0, none⟩), .int .u8 93] W' fun e w' => e = .returned (.tuple #[]) ∧ RS w' g s (q + 1) fold ∧ Mv g W' w') := ⟨fun W' q h1 h2 => want.good g q s fold 93 W' h1 hs h2⟩
  have HSZ := Aside0.mk hs
  clear h hr hTK hbp hnt hpp hL
  go_enter Try.func84, Try.ntmps84
  go_wp2_with (first
    | ((with_reducible refine gate_alloc (t := 64) (d := 4) rfl rfl ?_); refine alloc_cl rfl rfl rfl ?_; intro r4 w9 hg1 hc1 hb1; have Y3 := Aside0.mk (Y2.out.push hg1 hc1 hb1); clear hg1 hc1 hb1)
    | (go_at_call 66; (with_reducible refine (HTK.out _ Y1.out.rs).mono ?_); rintro e w9 ⟨rfl, hr1, hm1⟩; have Y2 := Aside0.mk (Y1.out.rd hr1 hm1); clear hr1 hm1)
    | ((with_reducible refine gate_alloc (t := 64) (d := 2) rfl rfl ?_); refine alloc_cl rfl rfl rfl ?_; intro r2 w9 hg1 hc1 hb1; have Y1 := Aside0.mk (HQ.out.push hg1 hc1 hb1); clear hg1 hc1 hb1))
  go_loopg [5] (s.size + 1 - p1) (fun kq v5 w' => ∃ (front : Bool) (q : Nat) (out : C4), v5 = .bool front ∧ s.size + 1 ≤ q + kq ∧ q ≤ s.size ∧ Aside0 (brL s kq q front out = L) ∧ Aside0 (QL g W w' s q fold [(r2, C4.nil), (r4, out)]))
  case atStart => exact ⟨true, p1, C4.nil, rfl, by omega, hp1, HL, ⟨Y3.out⟩⟩
  case round =>
    clear HL HQ HTK hp1 hp
    obtain ⟨front, q, out, rfl, hq, hqs, HB0, HQ⟩ := hrel
    obtain ⟨k, rfl⟩ : ∃ k, gk = k + 1 := ⟨gk - 1, by omega⟩
    have hb := HB0.out
    rw [brL] at hb
    clear HB0
    cases front with
    | true =>
      rw [if_neg (fun h => by cases h.1)] at hb
      cases hE : oneR s q true with
      | bad n =>
        rw [hE] at hb
        simp only at hb
        have hr2 := HR.out
        rw [← hb] at hr2
        unfold brEnd at hr2
        have HR2 := Aside0.mk hr2
        have HE := Aside0.mk hE
        clear hb hr2 hE
        go_wp2_with (first
          | (go_at_call 97; (with_reducible refine (HONB.out _ q true n HQ.out.rs HE.out).mono ?_); rintro e w9 ⟨he, hm1⟩; unfold Bad at he; subst he; have Y15 := Aside0.mk (HQ.out.mv.trans hm1); clear hm1))
        exact ⟨rfl, RPost.bad HR2.out.symm Y15.out⟩
      | ok x q2 =>
        obtain ⟨c, v, t⟩ := x
        have hok := oneR_ok hE
        rw [hE] at hb
        simp only at hb
        have HE := Aside0.mk hE
        clear hE
        cases t with
        | false =>
          rw [if_neg (fun h => by cases h.1)] at hb
          obtain ⟨o2, ho2⟩ : ∃ o, joinN out c 4 = o := ⟨_, rfl⟩
          rw [ho2] at hb
          have HJ : Aside0 (∀ W', Calls Try.prog 100 #[.agg out.cells, .agg c.cells] W' fun e w' => e = .returned (.agg o2.cells) ∧ Below W'.heap.size W' w') := ⟨fun W' => by rw [← ho2]; exact join.calls out c W'⟩
          have HB1 := Aside0.mk hb
          clear hb ho2
          go_wp2_with (first
            | ((with_reducible refine gate_storeT (t := 64) (p := 6) rfl ?_); refine store_cl rfl 6 _ rfl _ rfl _ c rfl (Y17.out.at_ 2 _ _ rfl).2 ?_; intro w9 hc hm; have Y18 := Aside0.mk (Y17.out.set 2 rfl hc hm); have yk18 := Y18.out.c1; have yf18 := Y18.out.f1; have yz18 := Y18.out.c0; clear hc hm)
            | ((with_reducible refine gate_alloc (t := 64) (d := 6) rfl rfl ?_); refine alloc_cl rfl rfl rfl ?_; intro r6 w9 hg1 hc1 hb1; have Y17 := Aside0.mk (Y16.out.push hg1 hc1 hb1); clear hg1 hc1 hb1)
            | (go_at_call 97; (with_reducible refine (HONE.out _ q true c v false q2 HQ.out.rs HE.out).mono ?_); rintro e w9 ⟨rfl, hr1, hm1⟩; have Y16 := Aside0.mk (HQ.out.rd hr1 hm1); clear hr1 hm1))
          go_quiet (first | (go_at_call 98; exact Calls.quiet_of_same (HPX.out _)) | (go_at_call 79; exact Calls.quiet_of (HSQ.out _ Y18.out.rs)))
          have D1 := Aside0.mk (Y18.out.call (pw_below_drewN (Below.refl _ _) nq))
          have dk := D1.out.c1; have df := D1.out.f1; have dz := D1.out.c0
          go_wp2_with (first
            | ((with_reducible refine gate_storeT (t := 64) (p := 4) rfl ?_); refine store_cl rfl 4 _ rfl _ rfl _ o2 rfl (Y19.out.at_ 1 _ _ rfl).2 ?_; intro w9 hc hm; have Y20 := Aside0.mk (Y19.out.set 1 rfl hc hm); clear hc hm)
            | (go_at_call 100; (with_reducible refine (HJ.out _).mono ?_); rintro e w9 ⟨rfl, hb⟩; have Y19 := Aside0.mk (D1.out.call hb); clear hb)
            | ((with_reducible refine gate_load (t := 64) (p := 6) rfl ?_); refine load_cl rfl 6 rfl _ rfl _ (D1.out.at_ 2 _ _ rfl).2 ?_)
            | ((with_reducible refine gate_load (t := 64) (p := 4) rfl ?_); refine load_cl rfl 4 rfl _ rfl _ (D1.out.at_ 1 _ _ rfl).2 ?_))
          go_roundg k
          case measure => omega
          case rel => exact ⟨false, q2, o2, rfl, by omega, by omega, HB1, ⟨Y20.out.take 2⟩⟩
        | true =>
          obtain ⟨b1, hb1⟩ : ∃ b, seeP s q2 = b := ⟨_, rfl⟩
          have HSQ : Aside0 (∀ W', RS W' g s q2 fold → Calls Try.prog 79 #[.pointer (some ⟨g, 0, none⟩)] W' fun e w' => e = .returned (.int .u8 b1) ∧ ∃ m, w' = W'.drewN m) := ⟨fun W' h => by rw [← hb1]; exact see.q g q2 s fold W' h⟩
          rw [hb1] at hb
          by_cases d1 : b1 = 45
          · obtain ⟨q3, hq3⟩ : ∃ q3, q2 + 1 = q3 := ⟨_, rfl⟩
            have hlt2 : q2 < s.size := seeP_lt (by rw [hb1, d1]; decide)
            have w2 : IntKind.i64.wrap ((q2 : Int) + 1) = (q3 : Int) := by rw [IntKind.wrap_i64]; omega
            have i1 : (0 : Int) ≤ (q3 : Int) := by omega
            have i2 : (q3 : Int) ≤ (s.size : Int) := by omega
            have i3 : q3 ≤ s.size := by omega
            obtain ⟨t3, ht3⟩ : ∃ t3, decide (seeP s q3 = 93) = t3 := ⟨_, rfl⟩
            have HPX : Aside0 (∀ W', Calls Try.prog 98 #[.string (s.extract q3 s.size), .string ⟨#[93]⟩] W' fun e w' => e = .returned (.bool t3) ∧ w' = W') := ⟨fun W' => by have := Try.strings_HasPrefix (s.extract q3 s.size) ⟨#[93]⟩ W'; rw [show (⟨#[93]⟩ : ByteArray).data.toList = [93] from rfl, see_prefix s q3 i3, ht3] at this; exact this⟩
            rw [hq3] at hb
            by_cases d2 : seeP s q3 = 93
            · rw [if_neg (fun h => h.2.2 d2)] at hb
              have e3 : t3 = true := by rw [← ht3]; exact decide_eq_true d2
              subst e3
              have e1 : (b1 == 45) = true := beq_iff_eq.2 d1
              obtain ⟨o2, ho2⟩ : ∃ o, joinN out c 4 = o := ⟨_, rfl⟩
              rw [ho2] at hb
              have HJ : Aside0 (∀ W', Calls Try.prog 100 #[.agg out.cells, .agg c.cells] W' fun e w' => e = .returned (.agg o2.cells) ∧ Below W'.heap.size W' w') := ⟨fun W' => by rw [← ho2]; exact join.calls out c W'⟩
              have HB1 := Aside0.mk hb
              clear hb ho2 ht3 hb1 d1
              go_wp2_with (first
                | ((with_reducible refine gate_storeT (t := 64) (p := 6) rfl ?_); refine store_cl rfl 6 _ rfl _ rfl _ c rfl (Y22.out.at_ 2 _ _ rfl).2 ?_; intro w9 hc hm; have Y23 := Aside0.mk (Y22.out.set 2 rfl hc hm); have yk23 := Y23.out.c1; have yf23 := Y23.out.f1; have yz23 := Y23.out.c0; clear hc hm)
                | ((with_reducible refine gate_alloc (t := 64) (d := 6) rfl rfl ?_); refine alloc_cl rfl rfl rfl ?_; intro r6 w9 hg1 hc1 hb1; have Y22 := Aside0.mk (Y21.out.push hg1 hc1 hb1); clear hg1 hc1 hb1)
                | (go_at_call 97; (with_reducible refine (HONE.out _ q true c v true q2 HQ.out.rs HE.out).mono ?_); rintro e w9 ⟨rfl, hr1, hm1⟩; have Y21 := Aside0.mk (HQ.out.rd hr1 hm1); clear hr1 hm1))
              go_quiet (first | (go_at_call 98; exact Calls.quiet_of_same (HPX.out _)) | (go_at_call 79; exact Calls.quiet_of (HSQ.out _ Y23.out.rs)))
              have D1 := Aside0.mk (Y23.out.call (pw_below_drewN (Below.refl _ _) nq))
              have dk := D1.out.c1; have df := D1.out.f1; have dz := D1.out.c0
              go_wp2_with (first
                | ((with_reducible refine gate_storeT (t := 64) (p := 4) rfl ?_); refine store_cl rfl 4 _ rfl _ rfl _ o2 rfl (Y24.out.at_ 1 _ _ rfl).2 ?_; intro w9 hc hm; have Y25 := Aside0.mk (Y24.out.set 1 rfl hc hm); clear hc hm)
                | (go_at_call 100; (with_reducible refine (HJ.out _).mono ?_); rintro e w9 ⟨rfl, hb⟩; have Y24 := Aside0.mk (D1.out.call hb); clear hb)
                | ((with_reducible refine gate_load (t := 64) (p := 6) rfl ?_); refine load_cl rfl 6 rfl _ rfl _ (D1.out.at_ 2 _ _ rfl).2 ?_)
                | ((with_reducible refine gate_load (t := 64) (p := 4) rfl ?_); refine load_cl rfl 4 rfl _ rfl _ (D1.out.at_ 1 _ _ rfl).2 ?_))
              go_roundg k
              case measure => omega
              case rel => exact ⟨false, q2, o2, rfl, by omega, by omega, HB1, ⟨Y25.out.take 2⟩⟩
            rw [if_pos ⟨rfl, d1, d2⟩] at hb
            have e3 : t3 = false := by rw [← ht3]; exact decide_eq_false d2
            subst e3
            have e1 : (b1 == 45) = true := beq_iff_eq.2 d1
            clear ht3 hb1 d1 d2
            cases hE2 : oneR s q3 false with
            | bad n2 =>
              rw [hE2] at hb
              simp only at hb
              have HE2 := Aside0.mk hE2
              clear hE2
              have hr2 := HR.out
              rw [← hb] at hr2
              unfold brEnd at hr2
              have HR2 := Aside0.mk hr2
              clear hb hr2
              go_wp2_with (first
                | ((with_reducible refine gate_storeT (t := 64) (p := 6) rfl ?_); refine store_cl rfl 6 _ rfl _ rfl _ c rfl (Y27.out.at_ 2 _ _ rfl).2 ?_; intro w9 hc hm; have Y28 := Aside0.mk (Y27.out.set 2 rfl hc hm); have yk28 := Y28.out.c1; have yf28 := Y28.out.f1; have yz28 := Y28.out.c0; clear hc hm)
                | ((with_reducible refine gate_alloc (t := 64) (d := 6) rfl rfl ?_); refine alloc_cl rfl rfl rfl ?_; intro r6 w9 hg1 hc1 hb1; have Y27 := Aside0.mk (Y26.out.push hg1 hc1 hb1); clear hg1 hc1 hb1)
                | (go_at_call 97; (with_reducible refine (HONE.out _ q true c v true q2 HQ.out.rs HE.out).mono ?_); rintro e w9 ⟨rfl, hr1, hm1⟩; have Y26 := Aside0.mk (HQ.out.rd hr1 hm1); clear hr1 hm1))
              go_quiet (first | (go_at_call 98; exact Calls.quiet_of_same (HPX.out _)) | (go_at_call 79; exact Calls.quiet_of (HSQ.out _ Y28.out.rs)))
              have D1 := Aside0.mk (Y28.out.call (pw_below_drewN (Below.refl _ _) nq))
              have dk := D1.out.c1; have df := D1.out.f1; have dz := D1.out.c0
              go_wp2_with (first
                | (go_at_call 97; (with_reducible refine (HONB.out _ q3 false n2 (D1.out.at_p q3).rs HE2.out).mono ?_); rintro e w9 ⟨he, hm1⟩; unfold Bad at he; subst he; have Y29 := Aside0.mk ((D1.out.at_p q3).mv.trans hm1); clear hm1))
              exact ⟨rfl, RPost.bad HR2.out.symm Y29.out⟩
            | ok y q4 =>
              obtain ⟨c2, v2, is⟩ := y
              have hok2 := oneR_ok hE2
              rw [hE2] at hb
              simp only at hb
              have HE2 := Aside0.mk hE2
              clear hE2
              cases is with
              | false =>
                rw [if_pos (.inl rfl)] at hb
                have hr2 := HR.out
                rw [← hb] at hr2
                unfold brEnd at hr2
                have HR2 := Aside0.mk hr2
                clear hb hr2
                go_wp2_with (first
                  | ((with_reducible refine gate_storeT (t := 64) (p := 6) rfl ?_); refine store_cl rfl 6 _ rfl _ rfl _ c rfl (Y31.out.at_ 2 _ _ rfl).2 ?_; intro w9 hc hm; have Y32 := Aside0.mk (Y31.out.set 2 rfl hc hm); have yk32 := Y32.out.c1; have yf32 := Y32.out.f1; have yz32 := Y32.out.c0; clear hc hm)
                  | ((with_reducible refine gate_alloc (t := 64) (d := 6) rfl rfl ?_); refine alloc_cl rfl rfl rfl ?_; intro r6 w9 hg1 hc1 hb1; have Y31 := Aside0.mk (Y30.out.push hg1 hc1 hb1); clear hg1 hc1 hb1)
                  | (go_at_call 97; (with_reducible refine (HONE.out _ q true c v true q2 HQ.out.rs HE.out).mono ?_); rintro e w9 ⟨rfl, hr1, hm1⟩; have Y30 := Aside0.mk (HQ.out.rd hr1 hm1); clear hr1 hm1))
                go_quiet (first | (go_at_call 98; exact Calls.quiet_of_same (HPX.out _)) | (go_at_call 79; exact Calls.quiet_of (HSQ.out _ Y32.out.rs)))
                have D1 := Aside0.mk (Y32.out.call (pw_below_drewN (Below.refl _ _) nq))
                have dk := D1.out.c1; have df := D1.out.f1; have dz := D1.out.c0
                go_wp2_with (first
                  | (go_at_call 52; (with_reducible refine (fail.calls _ q3 _).mono ?_); rintro e w9 ⟨he, rfl⟩; unfold Bad at he; subst he)
                  | ((with_reducible refine gate_storeT (t := 64) (p := 10) rfl ?_); refine store_cl rfl 10 _ rfl _ rfl _ c2 rfl (Y34.out.at_ 3 _ _ rfl).2 ?_; intro w9 hc hm; have Y35 := Aside0.mk (Y34.out.set 3 rfl hc hm); have yk35 := Y35.out.c1; have yf35 := Y35.out.f1; have yz35 := Y35.out.c0; clear hc hm)
                  | ((with_reducible refine gate_alloc (t := 64) (d := 10) rfl rfl ?_); refine alloc_cl rfl rfl rfl ?_; intro r10 w9 hg1 hc1 hb1; have Y34 := Aside0.mk (Y33.out.push hg1 hc1 hb1); clear hg1 hc1 hb1)
                  | (go_at_call 97; (with_reducible refine (HONE.out _ q3 false c2 v2 false q4 (D1.out.at_p q3).rs HE2.out).mono ?_); rintro e w9 ⟨rfl, hr1, hm1⟩; have Y33 := Aside0.mk ((D1.out.at_p q3).rd hr1 hm1); clear hr1 hm1))
                exact ⟨rfl, RPost.bad HR2.out.symm Y35.out.mv⟩
              | true =>
                by_cases d4 : v2 < v
                · rw [if_pos (.inr d4)] at hb
                  have e4 : decide (v2 < v) = true := decide_eq_true d4
                  have hr2 := HR.out
                  rw [← hb] at hr2
                  unfold brEnd at hr2
                  have HR2 := Aside0.mk hr2
                  clear hb hr2
                  go_wp2_with (first
                    | ((with_reducible refine gate_storeT (t := 64) (p := 6) rfl ?_); refine store_cl rfl 6 _ rfl _ rfl _ c rfl (Y37.out.at_ 2 _ _ rfl).2 ?_; intro w9 hc hm; have Y38 := Aside0.mk (Y37.out.set 2 rfl hc hm); have yk38 := Y38.out.c1; have yf38 := Y38.out.f1; have yz38 := Y38.out.c0; clear hc hm)
                    | ((with_reducible refine gate_alloc (t := 64) (d := 6) rfl rfl ?_); refine alloc_cl rfl rfl rfl ?_; intro r6 w9 hg1 hc1 hb1; have Y37 := Aside0.mk (Y36.out.push hg1 hc1 hb1); clear hg1 hc1 hb1)
                    | (go_at_call 97; (with_reducible refine (HONE.out _ q true c v true q2 HQ.out.rs HE.out).mono ?_); rintro e w9 ⟨rfl, hr1, hm1⟩; have Y36 := Aside0.mk (HQ.out.rd hr1 hm1); clear hr1 hm1))
                  go_quiet (first | (go_at_call 98; exact Calls.quiet_of_same (HPX.out _)) | (go_at_call 79; exact Calls.quiet_of (HSQ.out _ Y38.out.rs)))
                  have D1 := Aside0.mk (Y38.out.call (pw_below_drewN (Below.refl _ _) nq))
                  have dk := D1.out.c1; have df := D1.out.f1; have dz := D1.out.c0
                  go_wp2_with (first
                    | (go_at_call 52; (with_reducible refine (fail.calls _ q3 _).mono ?_); rintro e w9 ⟨he, rfl⟩; unfold Bad at he; subst he)
                    | ((with_reducible refine gate_storeT (t := 64) (p := 10) rfl ?_); refine store_cl rfl 10 _ rfl _ rfl _ c2 rfl (Y40.out.at_ 3 _ _ rfl).2 ?_; intro w9 hc hm; have Y41 := Aside0.mk (Y40.out.set 3 rfl hc hm); have yk41 := Y41.out.c1; have yf41 := Y41.out.f1; have yz41 := Y41.out.c0; clear hc hm)
                    | ((with_reducible refine gate_alloc (t := 64) (d := 10) rfl rfl ?_); refine alloc_cl rfl rfl rfl ?_; intro r10 w9 hg1 hc1 hb1; have Y40 := Aside0.mk (Y39.out.push hg1 hc1 hb1); clear hg1 hc1 hb1)
                    | (go_at_call 97; (with_reducible refine (HONE.out _ q3 false c2 v2 true q4 (D1.out.at_p q3).rs HE2.out).mono ?_); rintro e w9 ⟨rfl, hr1, hm1⟩; have Y39 := Aside0.mk ((D1.out.at_p q3).rd hr1 hm1); clear hr1 hm1))
                  exact ⟨rfl, RPost.bad HR2.out.symm Y41.out.mv⟩
                rw [if_neg (fun h => h.elim (fun h => by cases h) d4)] at hb
                have e4 : decide (v2 < v) = false := decide_eq_false d4
                simp only at hb hok hok2
                obtain ⟨o1, ho1⟩ : ∃ o, rangeN v (v2 - v + 1).toNat = o := ⟨_, rfl⟩
                rw [ho1] at hb
                have HRG : Aside0 (∀ W', Calls Try.prog 99 #[.int .u8 v, .int .u8 v2] W' fun e w' => e = .returned (.agg o1.cells) ∧ Below W'.heap.size W' w') := ⟨fun W' => by rw [← ho1]; exact rangeOf.calls v v2 (v2 - v + 1).toNat W' (by omega) (by omega) (by omega) (by omega)⟩
                obtain ⟨o2, ho2⟩ : ∃ o, joinN out o1 4 = o := ⟨_, rfl⟩
                rw [ho2] at hb
                have HJ : Aside0 (∀ W', Calls Try.prog 100 #[.agg out.cells, .agg o1.cells] W' fun e w' => e = .returned (.agg o2.cells) ∧ Below W'.heap.size W' w') := ⟨fun W' => by rw [← ho2]; exact join.calls out o1 W'⟩
                have HB1 := Aside0.mk hb
                clear hb ho2 ho1
                go_wp2_with (first
                  | ((with_reducible refine gate_storeT (t := 64) (p := 6) rfl ?_); refine store_cl rfl 6 _ rfl _ rfl _ c rfl (Y43.out.at_ 2 _ _ rfl).2 ?_; intro w9 hc hm; have Y44 := Aside0.mk (Y43.out.set 2 rfl hc hm); have yk44 := Y44.out.c1; have yf44 := Y44.out.f1; have yz44 := Y44.out.c0; clear hc hm)
                  | ((with_reducible refine gate_alloc (t := 64) (d := 6) rfl rfl ?_); refine alloc_cl rfl rfl rfl ?_; intro r6 w9 hg1 hc1 hb1; have Y43 := Aside0.mk (Y42.out.push hg1 hc1 hb1); clear hg1 hc1 hb1)
                  | (go_at_call 97; (with_reducible refine (HONE.out _ q true c v true q2 HQ.out.rs HE.out).mono ?_); rintro e w9 ⟨rfl, hr1, hm1⟩; have Y42 := Aside0.mk (HQ.out.rd hr1 hm1); clear hr1 hm1))
                go_quiet (first | (go_at_call 98; exact Calls.quiet_of_same (HPX.out _)) | (go_at_call 79; exact Calls.quiet_of (HSQ.out _ Y44.out.rs)))
                have D1 := Aside0.mk (Y44.out.call (pw_below_drewN (Below.refl _ _) nq))
                have dk := D1.out.c1; have df := D1.out.f1; have dz := D1.out.c0
                go_wp2_with (first
                  | ((with_reducible refine gate_storeT (t := 64) (p := 4) rfl ?_); refine store_cl rfl 4 _ rfl _ rfl _ o2 rfl (Y50.out.at_ 1 _ _ rfl).2 ?_; intro w9 hc hm; have Y51 := Aside0.mk (Y50.out.set 1 rfl hc hm); clear hc hm)
                  | (go_at_call 100; (with_reducible refine (HJ.out _).mono ?_); rintro e w9 ⟨rfl, hb⟩; have Y50 := Aside0.mk (Y49.out.call hb); clear hb)
                  | ((with_reducible refine gate_load (t := 64) (p := 6) rfl ?_); refine load_cl rfl 6 rfl _ rfl _ (Y49.out.at_ 2 _ _ rfl).2 ?_)
                  | ((with_reducible refine gate_load (t := 64) (p := 4) rfl ?_); refine load_cl rfl 4 rfl _ rfl _ (Y49.out.at_ 1 _ _ rfl).2 ?_)
                  | ((with_reducible refine gate_storeT (t := 64) (p := 6) rfl ?_); refine store_cl rfl 6 _ rfl _ rfl _ o1 rfl (Y48.out.at_ 2 _ _ rfl).2 ?_; intro w9 hc hm; have Y49 := Aside0.mk (Y48.out.set 2 rfl hc hm); clear hc hm)
                  | (go_at_call 99; (with_reducible refine (HRG.out _).mono ?_); rintro e w9 ⟨rfl, hb⟩; have Y48 := Aside0.mk (Y47.out.call hb); clear hb)
                  | ((with_reducible refine gate_storeT (t := 64) (p := 10) rfl ?_); refine store_cl rfl 10 _ rfl _ rfl _ c2 rfl (Y46.out.at_ 3 _ _ rfl).2 ?_; intro w9 hc hm; have Y47 := Aside0.mk (Y46.out.set 3 rfl hc hm); have yk47 := Y47.out.c1; have yf47 := Y47.out.f1; have yz47 := Y47.out.c0; clear hc hm)
                  | ((with_reducible refine gate_alloc (t := 64) (d := 10) rfl rfl ?_); refine alloc_cl rfl rfl rfl ?_; intro r10 w9 hg1 hc1 hb1; have Y46 := Aside0.mk (Y45.out.push hg1 hc1 hb1); clear hg1 hc1 hb1)
                  | (go_at_call 97; (with_reducible refine (HONE.out _ q3 false c2 v2 true q4 (D1.out.at_p q3).rs HE2.out).mono ?_); rintro e w9 ⟨rfl, hr1, hm1⟩; have Y45 := Aside0.mk ((D1.out.at_p q3).rd hr1 hm1); clear hr1 hm1))
                go_roundg k
                case measure => omega
                case rel => exact ⟨false, q4, o2, rfl, by omega, by omega, HB1, ⟨Y51.out.take 2⟩⟩

          have e1 : (b1 == 45) = false := beq_eq_false_iff_ne.2 d1
          rw [if_neg (fun h => d1 h.2.1)] at hb
          obtain ⟨o2, ho2⟩ : ∃ o, joinN out c 4 = o := ⟨_, rfl⟩
          rw [ho2] at hb
          have HJ : Aside0 (∀ W', Calls Try.prog 100 #[.agg out.cells, .agg c.cells] W' fun e w' => e = .returned (.agg o2.cells) ∧ Below W'.heap.size W' w') := ⟨fun W' => by rw [← ho2]; exact join.calls out c W'⟩
          have HB1 := Aside0.mk hb
          clear hb ho2 hb1 d1
          go_wp2_with (first
            | ((with_reducible refine gate_storeT (t := 64) (p := 6) rfl ?_); refine store_cl rfl 6 _ rfl _ rfl _ c rfl (Y53.out.at_ 2 _ _ rfl).2 ?_; intro w9 hc hm; have Y54 := Aside0.mk (Y53.out.set 2 rfl hc hm); have yk54 := Y54.out.c1; have yf54 := Y54.out.f1; have yz54 := Y54.out.c0; clear hc hm)
            | ((with_reducible refine gate_alloc (t := 64) (d := 6) rfl rfl ?_); refine alloc_cl rfl rfl rfl ?_; intro r6 w9 hg1 hc1 hb1; have Y53 := Aside0.mk (Y52.out.push hg1 hc1 hb1); clear hg1 hc1 hb1)
            | (go_at_call 97; (with_reducible refine (HONE.out _ q true c v true q2 HQ.out.rs HE.out).mono ?_); rintro e w9 ⟨rfl, hr1, hm1⟩; have Y52 := Aside0.mk (HQ.out.rd hr1 hm1); clear hr1 hm1))
          go_quiet (first | (go_at_call 98; exact Calls.quiet_of_same (HPX.out _)) | (go_at_call 79; exact Calls.quiet_of (HSQ.out _ Y54.out.rs)))
          have D1 := Aside0.mk (Y54.out.call (pw_below_drewN (Below.refl _ _) nq))
          have dk := D1.out.c1; have df := D1.out.f1; have dz := D1.out.c0
          go_wp2_with (first
            | ((with_reducible refine gate_storeT (t := 64) (p := 4) rfl ?_); refine store_cl rfl 4 _ rfl _ rfl _ o2 rfl (Y55.out.at_ 1 _ _ rfl).2 ?_; intro w9 hc hm; have Y56 := Aside0.mk (Y55.out.set 1 rfl hc hm); clear hc hm)
            | (go_at_call 100; (with_reducible refine (HJ.out _).mono ?_); rintro e w9 ⟨rfl, hb⟩; have Y55 := Aside0.mk (D1.out.call hb); clear hb)
            | ((with_reducible refine gate_load (t := 64) (p := 6) rfl ?_); refine load_cl rfl 6 rfl _ rfl _ (D1.out.at_ 2 _ _ rfl).2 ?_)
            | ((with_reducible refine gate_load (t := 64) (p := 4) rfl ?_); refine load_cl rfl 4 rfl _ rfl _ (D1.out.at_ 1 _ _ rfl).2 ?_))
          go_roundg k
          case measure => omega
          case rel => exact ⟨false, q2, o2, rfl, by omega, by omega, HB1, ⟨Y56.out.take 2⟩⟩
    | false =>
      by_cases x9 : seeP s q = 93
      · have hb2 : L = .ok out q := by rw [← hb, if_pos ⟨rfl, x9⟩]
        have HT : Aside0 (takeP s q 93 = true) := ⟨by
          have hlt : q < s.size := seeP_lt (by rw [x9]; decide)
          unfold seeP at x9
          rw [if_pos hlt] at x9
          exact decide_eq_true ⟨hlt, x9⟩⟩
        have hr2 := HR.out
        rw [hb2] at hr2
        unfold brEnd at hr2
        obtain ⟨cc, hcc⟩ : ∃ cc, casedP fold out = cc := ⟨_, rfl⟩
        have HCS : Aside0 (∀ W' q', RS W' g s q' fold → Calls Try.prog 86 #[.pointer (some ⟨g, 0, none⟩), .agg out.cells] W' fun e w' => e = .returned (.agg cc.cells) ∧ Below W'.heap.size W' w') := ⟨fun W' q' h => by rw [← hcc]; exact cased.calls g q' s fold out W' h⟩
        simp only [hcc] at hr2
        obtain ⟨oc, hoc⟩ : ∃ oc, othersN cc 4 = oc := ⟨_, rfl⟩
        have HOT : Aside0 (∀ W', Calls Try.prog 82 #[.agg cc.cells] W' fun e w' => e = .returned (.agg oc.cells) ∧ Below W'.heap.size W' w') := ⟨fun W' => by rw [← hoc]; exact others.calls cc W'⟩
        rw [hoc] at hr2
        have HX := Aside0.mk x9
        clear hb2 hb hcc hoc x9 HONE HONB
        cases nt with
        | true =>
          rw [if_pos rfl] at hr2
          have HR2 := Aside0.mk hr2
          clear hr2
          go_wp2_with (first
            | ((with_reducible refine gate_storeT (t := 64) (p := 2) rfl ?_); refine store_cl rfl 2 _ rfl _ rfl _ oc rfl (Y8.out.at_ 0 _ _ rfl).2 ?_; intro w9 hc hm; have Y9 := Aside0.mk (Y8.out.set 0 rfl hc hm); clear hc hm)
            | (go_at_call 82; (with_reducible refine (HOT.out _).mono ?_); rintro e w9 ⟨rfl, hb⟩; have Y8 := Aside0.mk (Y7.out.call hb); clear hb)
            | ((with_reducible refine gate_load (t := 64) (p := 4) rfl ?_); refine load_cl rfl 4 rfl _ rfl _ (Y7.out.at_ 1 _ _ rfl).2 ?_)
            | ((with_reducible refine gate_storeT (t := 64) (p := 4) rfl ?_); refine store_cl rfl 4 _ rfl _ rfl _ cc rfl (Y6.out.at_ 1 _ _ rfl).2 ?_; intro w9 hc hm; have Y7 := Aside0.mk (Y6.out.set 1 rfl hc hm); clear hc hm)
            | (go_at_call 86; (with_reducible refine (HCS.out _ _ Y5.out.rs).mono ?_); rintro e w9 ⟨rfl, hb⟩; have Y6 := Aside0.mk (Y5.out.call hb); clear hb)
            | ((with_reducible refine gate_load (t := 64) (p := 4) rfl ?_); refine load_cl rfl 4 rfl _ rfl _ (Y5.out.at_ 1 _ _ rfl).2 ?_)
            | (go_at_call 83; (with_reducible refine (HWG.out _ q Y4.out.rs HT.out).mono ?_); rintro e w9 ⟨rfl, hr1, hm1⟩; have Y5 := Aside0.mk (Y4.out.rd hr1 hm1); clear hr1 hm1)
            | (go_at_call 79; (with_reducible refine (see.calls g q s fold _ HQ.out.rs).mono ?_); rintro e w9 ⟨rfl, hb⟩; have Y4 := Aside0.mk (HQ.out.call hb); clear hb; have hv2 := HX.out; rw [hv2]; clear hv2))
          (try simp only [Exit.inBlock, Exit.then])
          refine bodyPost_ret (results_cl rfl _ _ rfl (Y9.out.at_ 0 _ _ rfl).2) rfl ?_
          exact RPost.good HR2.out.symm Y9.out.rs Y9.out.mv
        | false =>
          rw [if_neg (by decide)] at hr2
          have HR2 := Aside0.mk hr2
          clear hr2
          go_wp2_with (first
            | ((with_reducible refine gate_storeT (t := 64) (p := 2) rfl ?_); refine store_cl rfl 2 _ rfl _ rfl _ cc rfl (Y13.out.at_ 0 _ _ rfl).2 ?_; intro w9 hc hm; have Y14 := Aside0.mk (Y13.out.set 0 rfl hc hm); clear hc hm)
            | ((with_reducible refine gate_load (t := 64) (p := 4) rfl ?_); refine load_cl rfl 4 rfl _ rfl _ (Y13.out.at_ 1 _ _ rfl).2 ?_)
            | ((with_reducible refine gate_storeT (t := 64) (p := 4) rfl ?_); refine store_cl rfl 4 _ rfl _ rfl _ cc rfl (Y12.out.at_ 1 _ _ rfl).2 ?_; intro w9 hc hm; have Y13 := Aside0.mk (Y12.out.set 1 rfl hc hm); clear hc hm)
            | (go_at_call 86; (with_reducible refine (HCS.out _ _ Y11.out.rs).mono ?_); rintro e w9 ⟨rfl, hb⟩; have Y12 := Aside0.mk (Y11.out.call hb); clear hb)
            | ((with_reducible refine gate_load (t := 64) (p := 4) rfl ?_); refine load_cl rfl 4 rfl _ rfl _ (Y11.out.at_ 1 _ _ rfl).2 ?_)
            | (go_at_call 83; (with_reducible refine (HWG.out _ q Y10.out.rs HT.out).mono ?_); rintro e w9 ⟨rfl, hr1, hm1⟩; have Y11 := Aside0.mk (Y10.out.rd hr1 hm1); clear hr1 hm1)
            | (go_at_call 79; (with_reducible refine (see.calls g q s fold _ HQ.out.rs).mono ?_); rintro e w9 ⟨rfl, hb⟩; have Y10 := Aside0.mk (HQ.out.call hb); clear hb; have hv2 := HX.out; rw [hv2]; clear hv2))
          (try simp only [Exit.inBlock, Exit.then])
          refine bodyPost_ret (results_cl rfl _ _ rfl (Y14.out.at_ 0 _ _ rfl).2) rfl ?_
          exact RPost.good HR2.out.symm Y14.out.rs Y14.out.mv
      rw [if_neg (fun h => x9 h.2)] at hb
      obtain ⟨b0, hb0⟩ : ∃ b, seeP s q = b := ⟨_, rfl⟩
      rw [hb0] at x9
      have HX := Aside0.mk hb0
      have x1 : (b0 == 93) = false := beq_eq_false_iff_ne.2 x9
      have x2 : (b0 != 93) = true := by simp [x9]
      clear hb0 x9
      cases hE : oneR s q false with
      | bad n =>
        rw [hE] at hb
        simp only at hb
        have hr2 := HR.out
        rw [← hb] at hr2
        unfold brEnd at hr2
        have HR2 := Aside0.mk hr2
        have HE := Aside0.mk hE
        clear hb hr2 hE
        go_wp2_with (first
          | (go_at_call 97; (with_reducible refine (HONB.out _ q false n Y57.out.rs HE.out).mono ?_); rintro e w9 ⟨he, hm1⟩; unfold Bad at he; subst he; have Y58 := Aside0.mk (Y57.out.mv.trans hm1); clear hm1)
          | (go_at_call 79; (with_reducible refine (see.calls g q s fold _ HQ.out.rs).mono ?_); rintro e w9 ⟨rfl, hb⟩; have Y57 := Aside0.mk (HQ.out.call hb); clear hb; have hv2 := HX.out; rw [hv2]; clear hv2))
        exact ⟨rfl, RPost.bad HR2.out.symm Y58.out⟩
      | ok x q2 =>
        obtain ⟨c, v, t⟩ := x
        have hok := oneR_ok hE
        rw [hE] at hb
        simp only at hb
        have HE := Aside0.mk hE
        clear hE
        cases t with
        | false =>
          rw [if_neg (fun h => by cases h.1)] at hb
          obtain ⟨o2, ho2⟩ : ∃ o, joinN out c 4 = o := ⟨_, rfl⟩
          rw [ho2] at hb
          have HJ : Aside0 (∀ W', Calls Try.prog 100 #[.agg out.cells, .agg c.cells] W' fun e w' => e = .returned (.agg o2.cells) ∧ Below W'.heap.size W' w') := ⟨fun W' => by rw [← ho2]; exact join.calls out c W'⟩
          have HB1 := Aside0.mk hb
          clear hb ho2
          go_wp2_with (first
            | ((with_reducible refine gate_storeT (t := 64) (p := 6) rfl ?_); refine store_cl rfl 6 _ rfl _ rfl _ c rfl (Y61.out.at_ 2 _ _ rfl).2 ?_; intro w9 hc hm; have Y62 := Aside0.mk (Y61.out.set 2 rfl hc hm); have yk62 := Y62.out.c1; have yf62 := Y62.out.f1; have yz62 := Y62.out.c0; clear hc hm)
            | ((with_reducible refine gate_alloc (t := 64) (d := 6) rfl rfl ?_); refine alloc_cl rfl rfl rfl ?_; intro r6 w9 hg1 hc1 hb1; have Y61 := Aside0.mk (Y60.out.push hg1 hc1 hb1); clear hg1 hc1 hb1)
            | (go_at_call 97; (with_reducible refine (HONE.out _ q false c v false q2 Y59.out.rs HE.out).mono ?_); rintro e w9 ⟨rfl, hr1, hm1⟩; have Y60 := Aside0.mk (Y59.out.rd hr1 hm1); clear hr1 hm1)
            | (go_at_call 79; (with_reducible refine (see.calls g q s fold _ HQ.out.rs).mono ?_); rintro e w9 ⟨rfl, hb⟩; have Y59 := Aside0.mk (HQ.out.call hb); clear hb; have hv2 := HX.out; rw [hv2]; clear hv2))
          go_quiet (first | (go_at_call 98; exact Calls.quiet_of_same (HPX.out _)) | (go_at_call 79; exact Calls.quiet_of (HSQ.out _ Y62.out.rs)))
          have D1 := Aside0.mk (Y62.out.call (pw_below_drewN (Below.refl _ _) nq))
          have dk := D1.out.c1; have df := D1.out.f1; have dz := D1.out.c0
          go_wp2_with (first
            | ((with_reducible refine gate_storeT (t := 64) (p := 4) rfl ?_); refine store_cl rfl 4 _ rfl _ rfl _ o2 rfl (Y63.out.at_ 1 _ _ rfl).2 ?_; intro w9 hc hm; have Y64 := Aside0.mk (Y63.out.set 1 rfl hc hm); clear hc hm)
            | (go_at_call 100; (with_reducible refine (HJ.out _).mono ?_); rintro e w9 ⟨rfl, hb⟩; have Y63 := Aside0.mk (D1.out.call hb); clear hb)
            | ((with_reducible refine gate_load (t := 64) (p := 6) rfl ?_); refine load_cl rfl 6 rfl _ rfl _ (D1.out.at_ 2 _ _ rfl).2 ?_)
            | ((with_reducible refine gate_load (t := 64) (p := 4) rfl ?_); refine load_cl rfl 4 rfl _ rfl _ (D1.out.at_ 1 _ _ rfl).2 ?_))
          go_roundg k
          case measure => omega
          case rel => exact ⟨false, q2, o2, rfl, by omega, by omega, HB1, ⟨Y64.out.take 2⟩⟩
        | true =>
          obtain ⟨b1, hb1⟩ : ∃ b, seeP s q2 = b := ⟨_, rfl⟩
          have HSQ : Aside0 (∀ W', RS W' g s q2 fold → Calls Try.prog 79 #[.pointer (some ⟨g, 0, none⟩)] W' fun e w' => e = .returned (.int .u8 b1) ∧ ∃ m, w' = W'.drewN m) := ⟨fun W' h => by rw [← hb1]; exact see.q g q2 s fold W' h⟩
          rw [hb1] at hb
          by_cases d1 : b1 = 45
          · obtain ⟨q3, hq3⟩ : ∃ q3, q2 + 1 = q3 := ⟨_, rfl⟩
            have hlt2 : q2 < s.size := seeP_lt (by rw [hb1, d1]; decide)
            have w2 : IntKind.i64.wrap ((q2 : Int) + 1) = (q3 : Int) := by rw [IntKind.wrap_i64]; omega
            have i1 : (0 : Int) ≤ (q3 : Int) := by omega
            have i2 : (q3 : Int) ≤ (s.size : Int) := by omega
            have i3 : q3 ≤ s.size := by omega
            obtain ⟨t3, ht3⟩ : ∃ t3, decide (seeP s q3 = 93) = t3 := ⟨_, rfl⟩
            have HPX : Aside0 (∀ W', Calls Try.prog 98 #[.string (s.extract q3 s.size), .string ⟨#[93]⟩] W' fun e w' => e = .returned (.bool t3) ∧ w' = W') := ⟨fun W' => by have := Try.strings_HasPrefix (s.extract q3 s.size) ⟨#[93]⟩ W'; rw [show (⟨#[93]⟩ : ByteArray).data.toList = [93] from rfl, see_prefix s q3 i3, ht3] at this; exact this⟩
            rw [hq3] at hb
            by_cases d2 : seeP s q3 = 93
            · rw [if_neg (fun h => h.2.2 d2)] at hb
              have e3 : t3 = true := by rw [← ht3]; exact decide_eq_true d2
              subst e3
              have e1 : (b1 == 45) = true := beq_iff_eq.2 d1
              obtain ⟨o2, ho2⟩ : ∃ o, joinN out c 4 = o := ⟨_, rfl⟩
              rw [ho2] at hb
              have HJ : Aside0 (∀ W', Calls Try.prog 100 #[.agg out.cells, .agg c.cells] W' fun e w' => e = .returned (.agg o2.cells) ∧ Below W'.heap.size W' w') := ⟨fun W' => by rw [← ho2]; exact join.calls out c W'⟩
              have HB1 := Aside0.mk hb
              clear hb ho2 ht3 hb1 d1
              go_wp2_with (first
                | ((with_reducible refine gate_storeT (t := 64) (p := 6) rfl ?_); refine store_cl rfl 6 _ rfl _ rfl _ c rfl (Y67.out.at_ 2 _ _ rfl).2 ?_; intro w9 hc hm; have Y68 := Aside0.mk (Y67.out.set 2 rfl hc hm); have yk68 := Y68.out.c1; have yf68 := Y68.out.f1; have yz68 := Y68.out.c0; clear hc hm)
                | ((with_reducible refine gate_alloc (t := 64) (d := 6) rfl rfl ?_); refine alloc_cl rfl rfl rfl ?_; intro r6 w9 hg1 hc1 hb1; have Y67 := Aside0.mk (Y66.out.push hg1 hc1 hb1); clear hg1 hc1 hb1)
                | (go_at_call 97; (with_reducible refine (HONE.out _ q false c v true q2 Y65.out.rs HE.out).mono ?_); rintro e w9 ⟨rfl, hr1, hm1⟩; have Y66 := Aside0.mk (Y65.out.rd hr1 hm1); clear hr1 hm1)
                | (go_at_call 79; (with_reducible refine (see.calls g q s fold _ HQ.out.rs).mono ?_); rintro e w9 ⟨rfl, hb⟩; have Y65 := Aside0.mk (HQ.out.call hb); clear hb; have hv2 := HX.out; rw [hv2]; clear hv2))
              go_quiet (first | (go_at_call 98; exact Calls.quiet_of_same (HPX.out _)) | (go_at_call 79; exact Calls.quiet_of (HSQ.out _ Y68.out.rs)))
              have D1 := Aside0.mk (Y68.out.call (pw_below_drewN (Below.refl _ _) nq))
              have dk := D1.out.c1; have df := D1.out.f1; have dz := D1.out.c0
              go_wp2_with (first
                | ((with_reducible refine gate_storeT (t := 64) (p := 4) rfl ?_); refine store_cl rfl 4 _ rfl _ rfl _ o2 rfl (Y69.out.at_ 1 _ _ rfl).2 ?_; intro w9 hc hm; have Y70 := Aside0.mk (Y69.out.set 1 rfl hc hm); clear hc hm)
                | (go_at_call 100; (with_reducible refine (HJ.out _).mono ?_); rintro e w9 ⟨rfl, hb⟩; have Y69 := Aside0.mk (D1.out.call hb); clear hb)
                | ((with_reducible refine gate_load (t := 64) (p := 6) rfl ?_); refine load_cl rfl 6 rfl _ rfl _ (D1.out.at_ 2 _ _ rfl).2 ?_)
                | ((with_reducible refine gate_load (t := 64) (p := 4) rfl ?_); refine load_cl rfl 4 rfl _ rfl _ (D1.out.at_ 1 _ _ rfl).2 ?_))
              go_roundg k
              case measure => omega
              case rel => exact ⟨false, q2, o2, rfl, by omega, by omega, HB1, ⟨Y70.out.take 2⟩⟩
            rw [if_pos ⟨rfl, d1, d2⟩] at hb
            have e3 : t3 = false := by rw [← ht3]; exact decide_eq_false d2
            subst e3
            have e1 : (b1 == 45) = true := beq_iff_eq.2 d1
            clear ht3 hb1 d1 d2
            cases hE2 : oneR s q3 false with
            | bad n2 =>
              rw [hE2] at hb
              simp only at hb
              have HE2 := Aside0.mk hE2
              clear hE2
              have hr2 := HR.out
              rw [← hb] at hr2
              unfold brEnd at hr2
              have HR2 := Aside0.mk hr2
              clear hb hr2
              go_wp2_with (first
                | ((with_reducible refine gate_storeT (t := 64) (p := 6) rfl ?_); refine store_cl rfl 6 _ rfl _ rfl _ c rfl (Y73.out.at_ 2 _ _ rfl).2 ?_; intro w9 hc hm; have Y74 := Aside0.mk (Y73.out.set 2 rfl hc hm); have yk74 := Y74.out.c1; have yf74 := Y74.out.f1; have yz74 := Y74.out.c0; clear hc hm)
                | ((with_reducible refine gate_alloc (t := 64) (d := 6) rfl rfl ?_); refine alloc_cl rfl rfl rfl ?_; intro r6 w9 hg1 hc1 hb1; have Y73 := Aside0.mk (Y72.out.push hg1 hc1 hb1); clear hg1 hc1 hb1)
                | (go_at_call 97; (with_reducible refine (HONE.out _ q false c v true q2 Y71.out.rs HE.out).mono ?_); rintro e w9 ⟨rfl, hr1, hm1⟩; have Y72 := Aside0.mk (Y71.out.rd hr1 hm1); clear hr1 hm1)
                | (go_at_call 79; (with_reducible refine (see.calls g q s fold _ HQ.out.rs).mono ?_); rintro e w9 ⟨rfl, hb⟩; have Y71 := Aside0.mk (HQ.out.call hb); clear hb; have hv2 := HX.out; rw [hv2]; clear hv2))
              go_quiet (first | (go_at_call 98; exact Calls.quiet_of_same (HPX.out _)) | (go_at_call 79; exact Calls.quiet_of (HSQ.out _ Y74.out.rs)))
              have D1 := Aside0.mk (Y74.out.call (pw_below_drewN (Below.refl _ _) nq))
              have dk := D1.out.c1; have df := D1.out.f1; have dz := D1.out.c0
              go_wp2_with (first
                | (go_at_call 97; (with_reducible refine (HONB.out _ q3 false n2 (D1.out.at_p q3).rs HE2.out).mono ?_); rintro e w9 ⟨he, hm1⟩; unfold Bad at he; subst he; have Y75 := Aside0.mk ((D1.out.at_p q3).mv.trans hm1); clear hm1))
              exact ⟨rfl, RPost.bad HR2.out.symm Y75.out⟩
            | ok y q4 =>
              obtain ⟨c2, v2, is⟩ := y
              have hok2 := oneR_ok hE2
              rw [hE2] at hb
              simp only at hb
              have HE2 := Aside0.mk hE2
              clear hE2
              cases is with
              | false =>
                rw [if_pos (.inl rfl)] at hb
                have hr2 := HR.out
                rw [← hb] at hr2
                unfold brEnd at hr2
                have HR2 := Aside0.mk hr2
                clear hb hr2
                go_wp2_with (first
                  | ((with_reducible refine gate_storeT (t := 64) (p := 6) rfl ?_); refine store_cl rfl 6 _ rfl _ rfl _ c rfl (Y78.out.at_ 2 _ _ rfl).2 ?_; intro w9 hc hm; have Y79 := Aside0.mk (Y78.out.set 2 rfl hc hm); have yk79 := Y79.out.c1; have yf79 := Y79.out.f1; have yz79 := Y79.out.c0; clear hc hm)
                  | ((with_reducible refine gate_alloc (t := 64) (d := 6) rfl rfl ?_); refine alloc_cl rfl rfl rfl ?_; intro r6 w9 hg1 hc1 hb1; have Y78 := Aside0.mk (Y77.out.push hg1 hc1 hb1); clear hg1 hc1 hb1)
                  | (go_at_call 97; (with_reducible refine (HONE.out _ q false c v true q2 Y76.out.rs HE.out).mono ?_); rintro e w9 ⟨rfl, hr1, hm1⟩; have Y77 := Aside0.mk (Y76.out.rd hr1 hm1); clear hr1 hm1)
                  | (go_at_call 79; (with_reducible refine (see.calls g q s fold _ HQ.out.rs).mono ?_); rintro e w9 ⟨rfl, hb⟩; have Y76 := Aside0.mk (HQ.out.call hb); clear hb; have hv2 := HX.out; rw [hv2]; clear hv2))
                go_quiet (first | (go_at_call 98; exact Calls.quiet_of_same (HPX.out _)) | (go_at_call 79; exact Calls.quiet_of (HSQ.out _ Y79.out.rs)))
                have D1 := Aside0.mk (Y79.out.call (pw_below_drewN (Below.refl _ _) nq))
                have dk := D1.out.c1; have df := D1.out.f1; have dz := D1.out.c0
                go_wp2_with (first
                  | (go_at_call 52; (with_reducible refine (fail.calls _ q3 _).mono ?_); rintro e w9 ⟨he, rfl⟩; unfold Bad at he; subst he)
                  | ((with_reducible refine gate_storeT (t := 64) (p := 10) rfl ?_); refine store_cl rfl 10 _ rfl _ rfl _ c2 rfl (Y81.out.at_ 3 _ _ rfl).2 ?_; intro w9 hc hm; have Y82 := Aside0.mk (Y81.out.set 3 rfl hc hm); have yk82 := Y82.out.c1; have yf82 := Y82.out.f1; have yz82 := Y82.out.c0; clear hc hm)
                  | ((with_reducible refine gate_alloc (t := 64) (d := 10) rfl rfl ?_); refine alloc_cl rfl rfl rfl ?_; intro r10 w9 hg1 hc1 hb1; have Y81 := Aside0.mk (Y80.out.push hg1 hc1 hb1); clear hg1 hc1 hb1)
                  | (go_at_call 97; (with_reducible refine (HONE.out _ q3 false c2 v2 false q4 (D1.out.at_p q3).rs HE2.out).mono ?_); rintro e w9 ⟨rfl, hr1, hm1⟩; have Y80 := Aside0.mk ((D1.out.at_p q3).rd hr1 hm1); clear hr1 hm1))
                exact ⟨rfl, RPost.bad HR2.out.symm Y82.out.mv⟩
              | true =>
                by_cases d4 : v2 < v
                · rw [if_pos (.inr d4)] at hb
                  have e4 : decide (v2 < v) = true := decide_eq_true d4
                  have hr2 := HR.out
                  rw [← hb] at hr2
                  unfold brEnd at hr2
                  have HR2 := Aside0.mk hr2
                  clear hb hr2
                  go_wp2_with (first
                    | ((with_reducible refine gate_storeT (t := 64) (p := 6) rfl ?_); refine store_cl rfl 6 _ rfl _ rfl _ c rfl (Y85.out.at_ 2 _ _ rfl).2 ?_; intro w9 hc hm; have Y86 := Aside0.mk (Y85.out.set 2 rfl hc hm); have yk86 := Y86.out.c1; have yf86 := Y86.out.f1; have yz86 := Y86.out.c0; clear hc hm)
                    | ((with_reducible refine gate_alloc (t := 64) (d := 6) rfl rfl ?_); refine alloc_cl rfl rfl rfl ?_; intro r6 w9 hg1 hc1 hb1; have Y85 := Aside0.mk (Y84.out.push hg1 hc1 hb1); clear hg1 hc1 hb1)
                    | (go_at_call 97; (with_reducible refine (HONE.out _ q false c v true q2 Y83.out.rs HE.out).mono ?_); rintro e w9 ⟨rfl, hr1, hm1⟩; have Y84 := Aside0.mk (Y83.out.rd hr1 hm1); clear hr1 hm1)
                    | (go_at_call 79; (with_reducible refine (see.calls g q s fold _ HQ.out.rs).mono ?_); rintro e w9 ⟨rfl, hb⟩; have Y83 := Aside0.mk (HQ.out.call hb); clear hb; have hv2 := HX.out; rw [hv2]; clear hv2))
                  go_quiet (first | (go_at_call 98; exact Calls.quiet_of_same (HPX.out _)) | (go_at_call 79; exact Calls.quiet_of (HSQ.out _ Y86.out.rs)))
                  have D1 := Aside0.mk (Y86.out.call (pw_below_drewN (Below.refl _ _) nq))
                  have dk := D1.out.c1; have df := D1.out.f1; have dz := D1.out.c0
                  go_wp2_with (first
                    | (go_at_call 52; (with_reducible refine (fail.calls _ q3 _).mono ?_); rintro e w9 ⟨he, rfl⟩; unfold Bad at he; subst he)
                    | ((with_reducible refine gate_storeT (t := 64) (p := 10) rfl ?_); refine store_cl rfl 10 _ rfl _ rfl _ c2 rfl (Y88.out.at_ 3 _ _ rfl).2 ?_; intro w9 hc hm; have Y89 := Aside0.mk (Y88.out.set 3 rfl hc hm); have yk89 := Y89.out.c1; have yf89 := Y89.out.f1; have yz89 := Y89.out.c0; clear hc hm)
                    | ((with_reducible refine gate_alloc (t := 64) (d := 10) rfl rfl ?_); refine alloc_cl rfl rfl rfl ?_; intro r10 w9 hg1 hc1 hb1; have Y88 := Aside0.mk (Y87.out.push hg1 hc1 hb1); clear hg1 hc1 hb1)
                    | (go_at_call 97; (with_reducible refine (HONE.out _ q3 false c2 v2 true q4 (D1.out.at_p q3).rs HE2.out).mono ?_); rintro e w9 ⟨rfl, hr1, hm1⟩; have Y87 := Aside0.mk ((D1.out.at_p q3).rd hr1 hm1); clear hr1 hm1))
                  exact ⟨rfl, RPost.bad HR2.out.symm Y89.out.mv⟩
                rw [if_neg (fun h => h.elim (fun h => by cases h) d4)] at hb
                have e4 : decide (v2 < v) = false := decide_eq_false d4
                simp only at hb hok hok2
                obtain ⟨o1, ho1⟩ : ∃ o, rangeN v (v2 - v + 1).toNat = o := ⟨_, rfl⟩
                rw [ho1] at hb
                have HRG : Aside0 (∀ W', Calls Try.prog 99 #[.int .u8 v, .int .u8 v2] W' fun e w' => e = .returned (.agg o1.cells) ∧ Below W'.heap.size W' w') := ⟨fun W' => by rw [← ho1]; exact rangeOf.calls v v2 (v2 - v + 1).toNat W' (by omega) (by omega) (by omega) (by omega)⟩
                obtain ⟨o2, ho2⟩ : ∃ o, joinN out o1 4 = o := ⟨_, rfl⟩
                rw [ho2] at hb
                have HJ : Aside0 (∀ W', Calls Try.prog 100 #[.agg out.cells, .agg o1.cells] W' fun e w' => e = .returned (.agg o2.cells) ∧ Below W'.heap.size W' w') := ⟨fun W' => by rw [← ho2]; exact join.calls out o1 W'⟩
                have HB1 := Aside0.mk hb
                clear hb ho2 ho1
                go_wp2_with (first
                  | ((with_reducible refine gate_storeT (t := 64) (p := 6) rfl ?_); refine store_cl rfl 6 _ rfl _ rfl _ c rfl (Y92.out.at_ 2 _ _ rfl).2 ?_; intro w9 hc hm; have Y93 := Aside0.mk (Y92.out.set 2 rfl hc hm); have yk93 := Y93.out.c1; have yf93 := Y93.out.f1; have yz93 := Y93.out.c0; clear hc hm)
                  | ((with_reducible refine gate_alloc (t := 64) (d := 6) rfl rfl ?_); refine alloc_cl rfl rfl rfl ?_; intro r6 w9 hg1 hc1 hb1; have Y92 := Aside0.mk (Y91.out.push hg1 hc1 hb1); clear hg1 hc1 hb1)
                  | (go_at_call 97; (with_reducible refine (HONE.out _ q false c v true q2 Y90.out.rs HE.out).mono ?_); rintro e w9 ⟨rfl, hr1, hm1⟩; have Y91 := Aside0.mk (Y90.out.rd hr1 hm1); clear hr1 hm1)
                  | (go_at_call 79; (with_reducible refine (see.calls g q s fold _ HQ.out.rs).mono ?_); rintro e w9 ⟨rfl, hb⟩; have Y90 := Aside0.mk (HQ.out.call hb); clear hb; have hv2 := HX.out; rw [hv2]; clear hv2))
                go_quiet (first | (go_at_call 98; exact Calls.quiet_of_same (HPX.out _)) | (go_at_call 79; exact Calls.quiet_of (HSQ.out _ Y93.out.rs)))
                have D1 := Aside0.mk (Y93.out.call (pw_below_drewN (Below.refl _ _) nq))
                have dk := D1.out.c1; have df := D1.out.f1; have dz := D1.out.c0
                go_wp2_with (first
                  | ((with_reducible refine gate_storeT (t := 64) (p := 4) rfl ?_); refine store_cl rfl 4 _ rfl _ rfl _ o2 rfl (Y99.out.at_ 1 _ _ rfl).2 ?_; intro w9 hc hm; have Y100 := Aside0.mk (Y99.out.set 1 rfl hc hm); clear hc hm)
                  | (go_at_call 100; (with_reducible refine (HJ.out _).mono ?_); rintro e w9 ⟨rfl, hb⟩; have Y99 := Aside0.mk (Y98.out.call hb); clear hb)
                  | ((with_reducible refine gate_load (t := 64) (p := 6) rfl ?_); refine load_cl rfl 6 rfl _ rfl _ (Y98.out.at_ 2 _ _ rfl).2 ?_)
                  | ((with_reducible refine gate_load (t := 64) (p := 4) rfl ?_); refine load_cl rfl 4 rfl _ rfl _ (Y98.out.at_ 1 _ _ rfl).2 ?_)
                  | ((with_reducible refine gate_storeT (t := 64) (p := 6) rfl ?_); refine store_cl rfl 6 _ rfl _ rfl _ o1 rfl (Y97.out.at_ 2 _ _ rfl).2 ?_; intro w9 hc hm; have Y98 := Aside0.mk (Y97.out.set 2 rfl hc hm); clear hc hm)
                  | (go_at_call 99; (with_reducible refine (HRG.out _).mono ?_); rintro e w9 ⟨rfl, hb⟩; have Y97 := Aside0.mk (Y96.out.call hb); clear hb)
                  | ((with_reducible refine gate_storeT (t := 64) (p := 10) rfl ?_); refine store_cl rfl 10 _ rfl _ rfl _ c2 rfl (Y95.out.at_ 3 _ _ rfl).2 ?_; intro w9 hc hm; have Y96 := Aside0.mk (Y95.out.set 3 rfl hc hm); have yk96 := Y96.out.c1; have yf96 := Y96.out.f1; have yz96 := Y96.out.c0; clear hc hm)
                  | ((with_reducible refine gate_alloc (t := 64) (d := 10) rfl rfl ?_); refine alloc_cl rfl rfl rfl ?_; intro r10 w9 hg1 hc1 hb1; have Y95 := Aside0.mk (Y94.out.push hg1 hc1 hb1); clear hg1 hc1 hb1)
                  | (go_at_call 97; (with_reducible refine (HONE.out _ q3 false c2 v2 true q4 (D1.out.at_p q3).rs HE2.out).mono ?_); rintro e w9 ⟨rfl, hr1, hm1⟩; have Y94 := Aside0.mk ((D1.out.at_p q3).rd hr1 hm1); clear hr1 hm1))
                go_roundg k
                case measure => omega
                case rel => exact ⟨false, q4, o2, rfl, by omega, by omega, HB1, ⟨Y100.out.take 2⟩⟩

          have e1 : (b1 == 45) = false := beq_eq_false_iff_ne.2 d1
          rw [if_neg (fun h => d1 h.2.1)] at hb
          obtain ⟨o2, ho2⟩ : ∃ o, joinN out c 4 = o := ⟨_, rfl⟩
          rw [ho2] at hb
          have HJ : Aside0 (∀ W', Calls Try.prog 100 #[.agg out.cells, .agg c.cells] W' fun e w' => e = .returned (.agg o2.cells) ∧ Below W'.heap.size W' w') := ⟨fun W' => by rw [← ho2]; exact join.calls out c W'⟩
          have HB1 := Aside0.mk hb
          clear hb ho2 hb1 d1
          go_wp2_with (first
            | ((with_reducible refine gate_storeT (t := 64) (p := 6) rfl ?_); refine store_cl rfl 6 _ rfl _ rfl _ c rfl (Y103.out.at_ 2 _ _ rfl).2 ?_; intro w9 hc hm; have Y104 := Aside0.mk (Y103.out.set 2 rfl hc hm); have yk104 := Y104.out.c1; have yf104 := Y104.out.f1; have yz104 := Y104.out.c0; clear hc hm)
            | ((with_reducible refine gate_alloc (t := 64) (d := 6) rfl rfl ?_); refine alloc_cl rfl rfl rfl ?_; intro r6 w9 hg1 hc1 hb1; have Y103 := Aside0.mk (Y102.out.push hg1 hc1 hb1); clear hg1 hc1 hb1)
            | (go_at_call 97; (with_reducible refine (HONE.out _ q false c v true q2 Y101.out.rs HE.out).mono ?_); rintro e w9 ⟨rfl, hr1, hm1⟩; have Y102 := Aside0.mk (Y101.out.rd hr1 hm1); clear hr1 hm1)
            | (go_at_call 79; (with_reducible refine (see.calls g q s fold _ HQ.out.rs).mono ?_); rintro e w9 ⟨rfl, hb⟩; have Y101 := Aside0.mk (HQ.out.call hb); clear hb; have hv2 := HX.out; rw [hv2]; clear hv2))
          go_quiet (first | (go_at_call 98; exact Calls.quiet_of_same (HPX.out _)) | (go_at_call 79; exact Calls.quiet_of (HSQ.out _ Y104.out.rs)))
          have D1 := Aside0.mk (Y104.out.call (pw_below_drewN (Below.refl _ _) nq))
          have dk := D1.out.c1; have df := D1.out.f1; have dz := D1.out.c0
          go_wp2_with (first
            | ((with_reducible refine gate_storeT (t := 64) (p := 4) rfl ?_); refine store_cl rfl 4 _ rfl _ rfl _ o2 rfl (Y105.out.at_ 1 _ _ rfl).2 ?_; intro w9 hc hm; have Y106 := Aside0.mk (Y105.out.set 1 rfl hc hm); clear hc hm)
            | (go_at_call 100; (with_reducible refine (HJ.out _).mono ?_); rintro e w9 ⟨rfl, hb⟩; have Y105 := Aside0.mk (D1.out.call hb); clear hb)
            | ((with_reducible refine gate_load (t := 64) (p := 6) rfl ?_); refine load_cl rfl 6 rfl _ rfl _ (D1.out.at_ 2 _ _ rfl).2 ?_)
            | ((with_reducible refine gate_load (t := 64) (p := 4) rfl ?_); refine load_cl rfl 4 rfl _ rfl _ (D1.out.at_ 1 _ _ rfl).2 ?_))
          go_roundg k
          case measure => omega
          case rel => exact ⟨false, q2, o2, rfl, by omega, by omega, HB1, ⟨Y106.out.take 2⟩⟩

end Go.Proofs.Ytclgnefeankbgaa.M
