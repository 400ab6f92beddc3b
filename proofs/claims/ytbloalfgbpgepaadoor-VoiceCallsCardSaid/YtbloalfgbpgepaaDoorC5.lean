/- voice.Calls walked. Conditions: as each theorem says. -/
import Derived.Test.YtbloalfgbpgepaaDoorC4
import Derived.WalkSpells
import Derived.BigRegion
import Derived.Lib.AppendIntMem
namespace Go.Proofs.YtbloalfgbpgepaaDoor.T
open Go Go.RowKit Go.Shelf Go.Proofs.YtbloalfgbpgepaaDoor.C Go.Proofs.YtbloalfgbpgepaaDoorW.PrintWords Go.Proofs.YtbloalfgbpgepaaDoorW.PrintLast Go.Proofs.YtbloalfgbpgepaaDoorW.PrintMore Hand
attribute [local go_sem] Oper.semAt_some max2_int min2_int max_two min_two max_three min_three max_four min_four
set_option linter.unusedVariables false
set_option linter.unusedSimpArgs false
/-- An act's cells behind a new block's filling. -/
def fill6 (w1 : World) (g : Nat) (v0 v1 v2 v3 v4 v5 : Value) : World := (((((w1.setCell ⟨g, 0, none⟩ v0).setCell ⟨g, 1, none⟩ v1).setCell ⟨g, 2, none⟩ v2).setCell ⟨g, 3, none⟩ v3).setCell ⟨g, 4, none⟩ v4).setCell ⟨g, 5, none⟩ v5
theorem fill6_blk {w1 : World} {g : Nat} {z0 z1 z2 z3 z4 z5 : Value} {T : TypeId} (h : w1.heap[g]? = some (.cells #[z0, z1, z2, z3, z4, z5] T (0, 0))) (v0 v1 v2 v3 v4 v5 : Value) : (fill6 w1 g v0 v1 v2 v3 v4 v5).heap[g]? = some (.cells #[v0, v1, v2, v3, v4, v5] T (0, 0)) :=
  (blk_set ((blk_set ((blk_set ((blk_set ((blk_set ((blk_set h 0 v0).trans rfl) 1 v1).trans rfl) 2 v2).trans rfl) 3 v3).trans rfl) 4 v4).trans rfl) 5 v5).trans rfl
theorem fill6_far {w1 : World} {g : Nat} {v0 v1 v2 v3 v4 v5 : Value} (k : Nat) (hk : k ≠ g) : (fill6 w1 g v0 v1 v2 v3 v4 v5).heap[k]? = w1.heap[k]? := by
  unfold fill6
  simp only [Below.heap_setCell _ ⟨g, _, none⟩ _ k hk]
theorem fill6_below {w w1 : World} {N g : Nat} {v0 v1 v2 v3 v4 v5 : Value} (h : Below N w w1) (hg : N ≤ g) : Below N w (fill6 w1 g v0 v1 v2 v3 v4 v5) := (((((h.setCell (p := ⟨g, 0, none⟩) hg _).setCell (p := ⟨g, 1, none⟩) hg _).setCell (p := ⟨g, 2, none⟩) hg _).setCell (p := ⟨g, 3, none⟩) hg _).setCell (p := ⟨g, 4, none⟩) hg _).setCell (p := ⟨g, 5, none⟩) hg _
theorem fill6_size {w1 : World} {g : Nat} {v0 v1 v2 v3 v4 v5 : Value} : (fill6 w1 g v0 v1 v2 v3 v4 v5).heap.size = w1.heap.size := by unfold fill6; simp
/-- The row of calls, and the calls. -/
structure QS (N : Nat) (w W : World) (A6 : Option Addr) (c6 m : Nat) (ps : List Nat) (L : List TS) : Prop where
  le : w.heap.size = N
  below : Below N w W
  len : ps.length = m
  row : Kd.R kp 40 W N (fun _ => True) (.slice A6 m c6) ps
  at_ : CallsAt W N ps L
section
variable {N : Nat} {w W W' : World} {A6 : Option Addr} {c6 m : Nat} {ps : List Nat} {L : List TS}
theorem QS.size (h : QS N w W A6 c6 m ps L) : N ≤ W.heap.size := by have := h.below.size; rw [h.le] at this; exact this
theorem QS.move (h : QS N w W A6 c6 m ps L) (hb : Below W.heap.size W W') : QS N w W' A6 c6 m ps L := by
  refine ⟨h.le, h.below.trans (hb.mono h.size), h.len, Kd.R_below h.row hb, h.at_.1, h.at_.2.1, fun i p y h1 h2 => ?_⟩
  obtain ⟨h3, h4⟩ := h.at_.2.2 i p y h1 h2
  exact ⟨h3, h4.below hb (blk_lt h4)⟩
theorem QS.drew (h : QS N w W A6 c6 m ps L) : QS N w W.drew A6 c6 m ps L := h.move (Below.refl _ _).drew
theorem QS.fill (h : QS N w W A6 c6 m ps L) {g : Nat} {cs : Array Value} (hb : W.heap[g]? = some (.cells cs 25 (0, 0))) (hg : N ≤ g) (v0 v1 v2 v3 v4 v5 : Value) : QS N w (fill6 W g v0 v1 v2 v3 v4 v5) A6 c6 m ps L := by
  refine ⟨h.le, fill6_below h.below hg, h.len, ?_, h.at_.1, h.at_.2.1, fun i p y h1 h2 => ?_⟩
  · exact Kd.R_mono (Kd.R_move (Kd.R_types h.row hb (by decide)) (fun k hk => fill6_far k hk.2)) (fun _ _ => trivial)
  · obtain ⟨h3, h4⟩ := h.at_.2.2 i p y h1 h2
    exact ⟨h3, (fill6_far p (blk_ne h4 hb (by decide))).trans h4⟩
theorem QS.lt (h : QS N w W A6 c6 m ps L) : ∀ p ∈ ps, p < W.heap.size := fun p hp => by
  obtain ⟨i, hi, e⟩ := List.mem_iff_getElem.1 hp
  have hiL : i < L.length := by rw [← h.at_.1]; exact hi
  exact blk_lt (h.at_.2.2 i p (L[i]) (by rw [List.getElem?_eq_getElem hi, e]) (List.getElem?_eq_getElem hiL)).2
/-- A cell of a block that is none of the calls' is written. -/
theorem QS.other (h : QS N w W A6 c6 m ps L) {g : Nat} {cs : Array Value} (hb : W.heap[g]? = some (.cells cs 42 (0, 0))) (hg : N ≤ g) (hn : ∀ p ∈ ps, p < g) (i : Nat) (u : Value) : QS N w (W.setCell ⟨g, i, none⟩ u) A6 c6 m ps L := by
  refine ⟨h.le, h.below.setCell hg _, h.len, ?_, h.at_.1, h.at_.2.1, fun i p y h1 h2 => ?_⟩
  · exact Kd.R_mono (Kd.R_far (p := ⟨g, i, none⟩) (Kd.R_types h.row hb (by decide)) (fun _ hk => hk.2) u) (fun _ _ => trivial)
  · obtain ⟨h3, h4⟩ := h.at_.2.2 i p y h1 h2
    have := hn p (List.mem_of_getElem? h1)
    exact ⟨h3, (Below.heap_setCell W _ u p (by show p ≠ g; omega)).trans h4⟩
theorem QS.take (h : QS N w W A6 c6 m ps L) {j p : Nat} {y y' : TS} (hj : ps[j]? = some p) (hy : L[j]? = some y) (h1 : CallAt W' p y') (hb : Below p W W') (hk : ∀ k, k < W.heap.size → k ≠ p → W'.heap[k]? = W.heap[k]?) : QS N w W' A6 c6 m ps (L.set j y') := by
  obtain ⟨hN, hC⟩ := h.at_.2.2 j p y hj hy
  refine ⟨h.le, h.below.trans (hb.mono hN), h.len, ?_, by rw [List.length_set]; exact h.at_.1, h.at_.2.1, fun i q z h2 h3 => ?_⟩
  · exact Kd.R_mono (Kd.R_move (Kd.R_types (Kd.R_bound h.row) hC (by decide)) (fun k hk2 => hk k hk2.1.2.2.1 hk2.2)) (fun _ _ => trivial)
  · rw [List.getElem?_set] at h3
    by_cases e : j = i
    · subst e
      rw [hj] at h2
      injection h2 with h2
      subst h2
      rw [if_pos rfl, if_pos (List.getElem?_eq_some_iff.1 hy).1] at h3
      injection h3 with h3
      subst h3
      exact ⟨hN, h1⟩
    · rw [if_neg e] at h3
      obtain ⟨h4, h5⟩ := h.at_.2.2 i q z h2 h3
      refine ⟨h4, (hk q (blk_lt h5) (fun e2 => e ?_)).trans h5⟩
      obtain ⟨hi1, hi2⟩ := List.getElem?_eq_some_iff.1 h2
      obtain ⟨hj1, hj2⟩ := List.getElem?_eq_some_iff.1 hj
      have hp := List.pairwise_iff_getElem.1 h.at_.2.1
      rcases Nat.lt_trichotomy j i with h6 | h6 | h6
      · exact absurd (by rw [hj2, hi2, e2]) (hp j i hj1 hi1 h6)
      · exact h6
      · exact absurd (by rw [hj2, hi2, e2]) (hp i j hi1 hj1 h6)
theorem QS.join (h : QS N w W A6 c6 m ps L) {g : Nat} {y : TS} (hy : CallAt W g y) (hN : N ≤ g) (hn : ∀ p ∈ ps, p < g) {v : Value} (ho : Kd.R kp 40 W' N (fun _ => True) v (ps ++ [g])) (hb : Below N w W') (hg : W.grownBy W' (Value.slice A6 m c6).ownBlock) : ∃ A7 c7, v = .slice A7 (m + 1) c7 ∧ QS N w W' A7 c7 (m + 1) (ps ++ [g]) (L ++ [y]) := by
  have hl : (ps ++ [g]).length = m + 1 := by rw [List.length_append, List.length_singleton, h.len]
  obtain ⟨A7, c7, e⟩ := Kd.R_slice ho
  rw [hl] at e
  subst e
  have keep : ∀ {p : Nat} {z : TS}, CallAt W p z → CallAt W' p z := fun {p z} hz => blk_grown hz hg (fun e => by
    obtain ⟨inner, hr⟩ := Kd.R_own h.row
    obtain ⟨cells, hc⟩ := own_typed hr p e.symm
    rw [show W.heap[p]? = _ from hz] at hc
    injection hc with hc
    injection hc with _ hc
    exact absurd hc (by decide))
  refine ⟨A7, c7, rfl, h.le, hb, hl, ho, by rw [hl, List.length_append, List.length_singleton, ← h.at_.1, h.len], ?_, fun i p z h1 h2 => ?_⟩
  · rw [List.nodup_append]
    exact ⟨h.at_.2.1, by simp, fun a ha b hb2 => by rw [List.mem_singleton.1 hb2]; have := hn a ha; omega⟩
  · by_cases e : i < ps.length
    · rw [List.getElem?_append_left e] at h1
      rw [List.getElem?_append_left (by rw [← h.at_.1]; exact e)] at h2
      obtain ⟨h3, h4⟩ := h.at_.2.2 i p z h1 h2
      exact ⟨h3, keep h4⟩
    · rw [List.getElem?_append_right (by omega)] at h1
      rw [List.getElem?_append_right (by rw [← h.at_.1]; omega), ← h.at_.1] at h2
      have e0 : i - ps.length = 0 := by
        have := (List.getElem?_eq_some_iff.1 h1).1
        simp at this
        omega
      rw [e0] at h1 h2
      cases h1
      cases h2
      exact ⟨hN, keep hy⟩
/-- What a step of a call leaves as it was. -/
theorem take_keeps {g p j : Nat} {ad6 : Addr} {v0 v1 v2 v3 v4 v5 : Value} {y : TS} (h : QS N w W A6 c6 m ps L) {u : Value} (hc : W.cell? (ad6.add j) = some u) (hb : W.heap[g]? = some (.cells #[v0, v1, v2, v3, v4, v5] 25 (0, 0))) (hC : CallAt W p y) (hrowne : (ad6.add j).block ≠ p) (hk : ∀ k, k < W.heap.size → k ≠ p → W'.heap[k]? = W.heap[k]?) :
    W'.cell? (ad6.add j) = some u ∧ W'.cell? ⟨g, 0, none⟩ = some v0 ∧ W'.cell? ⟨g, 1, none⟩ = some v1 ∧ W'.cell? ⟨g, 2, none⟩ = some v2 ∧ W'.cell? ⟨g, 3, none⟩ = some v3 ∧ W'.cell? ⟨g, 4, none⟩ = some v4 ∧ W'.cell? ⟨g, 5, none⟩ = some v5 := by
  have hg : W'.heap[g]? = _ := (hk g (blk_lt hb) (Ne.symm (blk_ne hC hb (by decide)))).trans hb
  exact ⟨(World.cell?_of_block (w := W) (hk _ (World.block_lt_of_cell? _ _ hc) hrowne)).trans hc, blk_cell hg 0, blk_cell hg 1, blk_cell hg 2, blk_cell hg 3, blk_cell hg 4, blk_cell hg 5⟩
theorem row_ne {ad6 : Addr} {p j : Nat} {y : TS} (h : QS N w W (some ad6) c6 m ps L) (hC : CallAt W p y) (hj : j < m) : (ad6.add j).block ≠ p := by
  have hl := h.len
  rcases (Kd.own_of_R (enc := fun p : Nat => Value.pointer (some ⟨p, 0, none⟩)) (h1 := fun _ => rfl) h.row).2 with ⟨hn, _⟩ | ⟨g, cap, cur, hvg, _, hh, _⟩
  · cases hn
  · cases hvg
    have e : ((⟨g, 0, none⟩ : Addr).add j).block = g := by unfold Addr.add; split <;> rfl
    rw [e]
    exact Ne.symm (blk_ne hC hh (by decide))
theorem QS.grown (h : QS N w W A6 c6 m ps L) {v : Value} {xs : List ByteArray} (hr : Kd.R Kd.string 9 W N (fun _ => True) v xs) (hg : W.grownBy W' v.ownBlock) (hb : Below N w W') : QS N w W' A6 c6 m ps L := by
  have keep : ∀ {p : Nat} {z : TS}, CallAt W p z → CallAt W' p z := fun {p z} hz => blk_grown hz hg (fun e => by
    obtain ⟨inner, ho⟩ := Kd.R_own hr
    obtain ⟨cells, hc⟩ := own_typed ho p e.symm
    rw [show W.heap[p]? = _ from hz] at hc
    injection hc with hc
    injection hc with _ hc
    exact absurd hc (by decide))
  refine ⟨h.le, hb, h.len, Kd.R_over h.row hr (by decide) hg, h.at_.1, h.at_.2.1, fun i p z h1 h2 => ?_⟩
  obtain ⟨h3, h4⟩ := h.at_.2.2 i p z h1 h2
  exact ⟨h3, keep h4⟩
theorem QS.kept (h : QS N w W A6 c6 m ps L) {v : Value} {xs : List ByteArray} (hr : Kd.R Kd.string 9 W N (fun _ => True) v xs) (hg : W.grownBy W' v.ownBlock) {p : Nat} {z : TS} (hz : CallAt W p z) : CallAt W' p z := blk_grown hz hg (fun e => by
    obtain ⟨inner, ho⟩ := Kd.R_own hr
    obtain ⟨cells, hc⟩ := own_typed ho p e.symm
    rw [show W.heap[p]? = _ from hz] at hc
    injection hc with hc
    injection hc with _ hc
    exact absurd hc (by decide))
theorem CallAt.alloc {p : Nat} {y : TS} (h : CallAt W p y) (o : Obj) : CallAt (W.alloc o) p y := h.below ((Below.refl _ _).alloc (Nat.le_refl _) o) (blk_lt h)
theorem call_cells {p : Nat} {n0 n3 : Int} {a1 a2 : ByteArray} (h : CallAt W p ⟨n0, a1, a2, n3⟩) : W.cell? ⟨p, 0, none⟩ = some (.int .i64 n0) ∧ W.cell? ⟨p, 1, none⟩ = some (.int .i64 n3) ∧ W.cell? ⟨p, 2, none⟩ = some (.string a1) ∧ W.cell? ⟨p, 3, none⟩ = some (.string a2) := ⟨blk_cell h 0, blk_cell h 1, blk_cell h 2, blk_cell h 3⟩
theorem index.callsm (h : QS N w W A6 c6 m ps L) (b : Nat) (op a B c : Int) (s : ByteArray) (A5 : Option Addr) (n5 c5 : Nat) (hb : W.heap[b]? = some (.cells #[.int .i64 op, .int .i64 a, .int .i64 B, .int .i64 c, .string s, .slice A5 n5 c5] 25)) :
    Calls Tryd.prog 11 #[.slice A6 m c6, .func (.func 12) #[] #[.pointer (some ⟨b, 0, none⟩)]] W fun e w' => e = .returned (.int .i64 (idx L a 0)) ∧ Below W.heap.size W w' := by
  have hl := h.len
  subst hl
  obtain ⟨h1, h2, h3⟩ := Kd.R_reads' h.row
  exact index.calls A6 c6 N ps L b op a B c s A5 n5 c5 W h3 h2 h.at_ hb
end
theorem infoP : (Tryd.prog.info? 40).map (fun i => (i.zero, i.size, i.bytes)) = some (some (.pointer none), 1, 8) := by kernel_rfl
def CallsPost (l0 : List TA) (w : World) (e : Ending) (w' : World) : Prop := ∃ v, e = .returned (.tuple #[v, .int .i64 (callsP l0).2]) ∧ Kd.R Kd.string 9 w' w.heap.size (fun _ => True) v (callsP l0).1 ∧ Below w.heap.size w w'
theorem tab_below {w W : World} {N : Nat} (h : Lib.TabIs Tryd.prog w "internal/strconv.uint64pow10" .u64 Lib.pow10Tab) (hb : Below N w W) (hN : w.heap.size = N) : Lib.TabIs Tryd.prog W "internal/strconv.uint64pow10" .u64 Lib.pow10Tab := by
  subst hN
  exact ((Lib.tabBelow_of_tabIs h).on hb).here
theorem itoa_calls {n : Int} {wr W : World} (h0 : -9223372036854775808 ≤ n) (h1 : n ≤ 9223372036854775807) (ht : Lib.TabIs Tryd.prog W "internal/strconv.uint64pow10" .u64 Lib.pow10Tab) (hb : Below wr.heap.size wr W) : Calls Tryd.prog 14 #[.int .i64 n] W fun e w' => e = .returned (.string (itoaB n)) ∧ Below wr.heap.size wr w' := by
  refine (Tryd.strconv_Itoa n h0 h1 W ht).mono ?_
  rintro e w' ⟨rfl, k, os, rfl⟩
  exact ⟨rfl, hb.trans (Lib.below_grow _ W hb.size k os)⟩
theorem itoaB_size {n : Int} (h0 : -9223372036854775808 ≤ n) (h1 : n ≤ 9223372036854775807) : (itoaB n).size ≤ 21 := by
  have := Lib.itoa_length_le n h0 h1
  show (Lib.itoa n).toArray.size ≤ 21
  simpa using this
theorem callsP_bad {l0 : List TA} {x : TA} (hl : l0.length ≤ 200) (hx : x ∈ l0) (h : okA x = false) : callsP l0 = ([], 1) := by
  unfold callsP
  have e : l0.all okA = false := by
    cases e : l0.all okA with
    | false => rfl
    | true => exact absurd (List.all_eq_true.1 e x hx) (by rw [h]; decide)
  rw [if_neg (by omega), e, if_neg (by decide)]
theorem isC_calls (s : ByteArray) (hs : s.size ≤ 9223372036854775806) (W : World) : Calls Tryd.prog 10 #[.string s] W fun e w' => e = .returned (.bool (isW s)) ∧ Below W.heap.size W w' := by
  obtain ⟨k, hk⟩ := isC_ev s hs
  refine (voice_isCaller.calls k s _ W (hk k (Nat.le_refl _))).mono ?_
  rintro e w' ⟨rfl, hd⟩
  exact ⟨rfl, by obtain ⟨n, rfl⟩ := hd; exact pw_below_drewN (Below.refl _ _) n⟩
set_option maxHeartbeats 8000000 in
set_option maxRecDepth 100000 in
theorem pcalls.calls (A0 : Option Addr) (c0 : Nat) (l0 : List TA) (w : World) (hr0 : Kd.C k25 w A0 l0.length l0) (hc0 : l0.length ≤ c0) (hz : ∀ x ∈ l0, x.f4.size ≤ 9223372036854775806) (htab : Lib.TabIs Tryd.prog w "internal/strconv.uint64pow10" .u64 Lib.pow10Tab) :
    Calls Tryd.prog 5 #[.slice A0 l0.length c0] w fun e w' => CallsPost l0 w e w' := by
  have hm := Kd.C_max hr0
  have HR0 := Aside0.mk hr0
  have HZ := Aside0.mk hz
  have HTAB := Aside0.mk htab
  clear hr0 hz htab
  obtain ⟨M, hM⟩ : ∃ M, l0.length = M := ⟨_, rfl⟩
  have HM := Aside0.mk hM
  rw [hM] at hm hc0 HR0 ⊢
  clear hM
  by_cases q1 : (M : Int) > 200
  · have HP : Aside0 (callsP l0 = ([], 3)) := ⟨by unfold callsP; rw [HM.out, if_pos q1]⟩
    have b1 : decide (200 < (M : Int)) = true := decide_eq_true q1
    have b2 : decide (200 < M) = true := decide_eq_true (by omega)
    go_enter Tryd.func5, Tryd.ntmps5
    go_wp2
    go_ret2
    exact ⟨.slice none 0 0, by rw [HP.out]; rfl, by rw [HP.out]; exact Kd.R_nil _ _ _ _ _, Below.refl _ _⟩
  have b1 : decide (200 < (M : Int)) = false := decide_eq_false q1
  have b2 : decide (200 < M) = false := decide_eq_false (by omega)
  have hM2 : M ≤ 200 := by omega
  obtain ⟨N, hN⟩ : ∃ N, w.heap.size = N := ⟨_, rfl⟩
  have HN := Aside0.mk hN
  have HPOST : Aside0 (∀ e w', (∃ v, e = .returned (.tuple #[v, .int .i64 (callsP l0).2]) ∧ Kd.R Kd.string 9 w' N (fun _ => True) v (callsP l0).1 ∧ Below N w w') → CallsPost l0 w e w') := ⟨fun e w' h => by rw [← HN.out] at h; exact h⟩
  clear hN
  go_enter Tryd.func5, Tryd.ntmps5
  go_wp2
  go_loopg [19] M (fun kq v19 w' => ∃ i : Nat, v19 = .int .i64 i ∧ i + kq = M ∧ Aside0 ((l0.take i).all okA = true) ∧ Aside0 (Below N w w'))
  case atStart => exact ⟨0, rfl, by omega, ⟨rfl⟩, ⟨Below.refl _ _⟩⟩
  case round =>
    obtain ⟨i, rfl, hk, HA, HB⟩ := hrel
    by_cases c1 : i < M
    · have i0 : (0 : Int) ≤ (i : Int) := by omega
      have i1 : (i : Int) < (M : Int) := by omega
      have i2 : IntKind.i64.wrap ((i : Int) + 1) = (i : Int) + 1 := by rw [IntKind.wrap_i64]; omega
      obtain ⟨ad, A5, c5, e, y0, y1, y2, y3, y4, y5, _, _⟩ := at_T25 (Kd.C_below HR0.out (by rw [HN.out]; exact HB.out)) i i0 i1
      cases e
      have hil : i < l0.length := by rw [HM.out]; exact c1
      have hrd : rd_T25 l0 (i : Int) = l0[i] := by unfold rd_T25; rw [Int.toNat_natCast, List.getD_eq_getElem?_getD, List.getElem?_eq_getElem hil]; rfl
      have hmem : l0[i] ∈ l0 := List.getElem_mem hil
      obtain ⟨x, hx⟩ : ∃ x, l0[i] = x := ⟨_, rfl⟩
      rw [hx] at hrd hmem
      rw [hrd] at y0 y1 y2 y3 y4 y5
      have HT : Aside0 ((l0.take (i + 1)).all okA = okA x) := ⟨by rw [List.take_succ_eq_append_getElem hil, hx, List.all_append, HA.out]; simp⟩
      have HX : Aside0 (x ∈ l0) := ⟨hmem⟩
      have hXS : x.f4.size ≤ 9223372036854775806 := HZ.out x hmem
      have HBW : Aside0 (N ≤ wr.heap.size) := ⟨by have := HB.out.size; rw [HN.out] at this; exact this⟩
      clear hrd hmem hx
      obtain ⟨x0, x1, x2, x3, x4, x5⟩ := x
      dsimp only at y0 y1 y2 y3 y4 y5 hXS
      rw [Int.toNat_natCast] at y0 y1 y2 y3 y4 y5
      go_upto_region 6 with ((with_reducible refine gate_dst (N := 5) rfl ?_); refine box_event ?hg (N := 5) ?hd (cs := #[.int .i64 0, .int .i64 0, .int .i64 0, .int .i64 0, .string (⟨#[]⟩ : ByteArray), .slice none 0 0]) (t := 25) ?hr ?_; (case hd => rfl); (case hg => rfl); (case hr => first | (go_simp; done) | (go_simp; rfl)); intro g hg w1 hbox hb; have HBX := Aside0.mk hbox; have HG := Aside0.mk hg; have HB1 := Aside0.mk hb; have z0 : w1.cell? ⟨g, 0, none⟩ = some (.int .i64 0) := (blk_cell hbox 0).trans rfl; have f0 := blk_frozen hbox 0; have z1 : w1.cell? ⟨g, 1, none⟩ = some (.int .i64 0) := (blk_cell hbox 1).trans rfl; have f1 := blk_frozen hbox 1; have z2 : w1.cell? ⟨g, 2, none⟩ = some (.int .i64 0) := (blk_cell hbox 2).trans rfl; have f2 := blk_frozen hbox 2; have z3 : w1.cell? ⟨g, 3, none⟩ = some (.int .i64 0) := (blk_cell hbox 3).trans rfl; have f3 := blk_frozen hbox 3; have z4 : w1.cell? ⟨g, 4, none⟩ = some (.string (⟨#[]⟩ : ByteArray)) := (blk_cell hbox 4).trans rfl; have f4 := blk_frozen hbox 4; have z5 : w1.cell? ⟨g, 5, none⟩ = some (.slice none 0 0) := (blk_cell hbox 5).trans rfl; have f5 := blk_frozen hbox 5; clear hg hb hbox)
      obtain ⟨W2, hW2⟩ : ∃ W2, fill6 w1 g (.int .i64 x0) (.int .i64 x1) (.int .i64 x2) (.int .i64 x3) (.string x4) (.slice A5 x5.length c5) = W2 := ⟨_, rfl⟩
      have HBX2 : Aside0 (W2.heap[g]? = some (.cells #[.int .i64 x0, .int .i64 x1, .int .i64 x2, .int .i64 x3, .string x4, .slice A5 x5.length c5] 25)) := ⟨by rw [← hW2]; exact fill6_blk HBX.out _ _ _ _ _ _⟩
      have HB2 : Aside0 (Below N w W2) := ⟨by rw [← hW2]; exact fill6_below (HB.out.trans (HB1.out.mono HBW.out)) (by rw [HG.out]; exact HBW.out)⟩
      unfold fill6 at hW2
      rw [hW2]
      have k0 : W2.cell? ⟨g, 0, none⟩ = some (.int .i64 x0) := blk_cell HBX2.out 0
      have k1 : W2.cell? ⟨g, 1, none⟩ = some (.int .i64 x1) := blk_cell HBX2.out 1
      have k2 : W2.cell? ⟨g, 2, none⟩ = some (.int .i64 x2) := blk_cell HBX2.out 2
      have k4 : W2.cell? ⟨g, 4, none⟩ = some (.string x4) := blk_cell HBX2.out 4
      clear hW2 z0 z1 z2 z3 z4 z5 f0 f1 f2 f3 f4 f5 y0 y1 y2 y3 y4 y5
      by_cases q0 : x0 < 0
      · have hbad : okA ⟨x0, x1, x2, x3, x4, x5⟩ = false := decide_eq_false (fun h => by obtain ⟨h1, h2, h3, h4, h5, h6, h7⟩ := h; dsimp only at h1 h2 h3 h4 h5 h6 h7; omega)
        have HP : Aside0 (callsP l0 = ([], 1)) := ⟨callsP_bad (by rw [HM.out]; exact hM2) HX.out hbad⟩
        clear hbad
        have e0 : decide (x0 < 0) = true := decide_eq_true q0
        clear q0
        go_wp2
        go_ret2
        exact HPOST.out _ _ ⟨.slice none 0 0, by rw [HP.out]; rfl, by rw [HP.out]; exact Kd.R_nil _ _ _ _ _, HB2.out⟩
      by_cases q1 : 5 < x0
      · have hbad : okA ⟨x0, x1, x2, x3, x4, x5⟩ = false := decide_eq_false (fun h => by obtain ⟨h1, h2, h3, h4, h5, h6, h7⟩ := h; dsimp only at h1 h2 h3 h4 h5 h6 h7; omega)
        have HP : Aside0 (callsP l0 = ([], 1)) := ⟨callsP_bad (by rw [HM.out]; exact hM2) HX.out hbad⟩
        clear hbad
        have e0 : decide (x0 < 0) = false := decide_eq_false q0
        have e1 : decide (5 < x0) = true := decide_eq_true q1
        clear q0 q1
        go_wp2
        go_ret2
        exact HPOST.out _ _ ⟨.slice none 0 0, by rw [HP.out]; rfl, by rw [HP.out]; exact Kd.R_nil _ _ _ _ _, HB2.out⟩
      by_cases q2 : x1 < 0
      · have hbad : okA ⟨x0, x1, x2, x3, x4, x5⟩ = false := decide_eq_false (fun h => by obtain ⟨h1, h2, h3, h4, h5, h6, h7⟩ := h; dsimp only at h1 h2 h3 h4 h5 h6 h7; omega)
        have HP : Aside0 (callsP l0 = ([], 1)) := ⟨callsP_bad (by rw [HM.out]; exact hM2) HX.out hbad⟩
        clear hbad
        have e0 : decide (x0 < 0) = false := decide_eq_false q0
        have e1 : decide (5 < x0) = false := decide_eq_false q1
        have e2 : decide (x1 < 0) = true := decide_eq_true q2
        clear q0 q1 q2
        go_wp2
        go_ret2
        exact HPOST.out _ _ ⟨.slice none 0 0, by rw [HP.out]; rfl, by rw [HP.out]; exact Kd.R_nil _ _ _ _ _, HB2.out⟩
      by_cases q3 : 4503599627370496 < x1
      · have hbad : okA ⟨x0, x1, x2, x3, x4, x5⟩ = false := decide_eq_false (fun h => by obtain ⟨h1, h2, h3, h4, h5, h6, h7⟩ := h; dsimp only at h1 h2 h3 h4 h5 h6 h7; omega)
        have HP : Aside0 (callsP l0 = ([], 1)) := ⟨callsP_bad (by rw [HM.out]; exact hM2) HX.out hbad⟩
        clear hbad
        have e0 : decide (x0 < 0) = false := decide_eq_false q0
        have e1 : decide (5 < x0) = false := decide_eq_false q1
        have e2 : decide (x1 < 0) = false := decide_eq_false q2
        have e3 : decide (4503599627370496 < x1) = true := decide_eq_true q3
        clear q0 q1 q2 q3
        go_wp2
        go_ret2
        exact HPOST.out _ _ ⟨.slice none 0 0, by rw [HP.out]; rfl, by rw [HP.out]; exact Kd.R_nil _ _ _ _ _, HB2.out⟩
      by_cases q4 : x2 < 0
      · have hbad : okA ⟨x0, x1, x2, x3, x4, x5⟩ = false := decide_eq_false (fun h => by obtain ⟨h1, h2, h3, h4, h5, h6, h7⟩ := h; dsimp only at h1 h2 h3 h4 h5 h6 h7; omega)
        have HP : Aside0 (callsP l0 = ([], 1)) := ⟨callsP_bad (by rw [HM.out]; exact hM2) HX.out hbad⟩
        clear hbad
        have e0 : decide (x0 < 0) = false := decide_eq_false q0
        have e1 : decide (5 < x0) = false := decide_eq_false q1
        have e2 : decide (x1 < 0) = false := decide_eq_false q2
        have e3 : decide (4503599627370496 < x1) = false := decide_eq_false q3
        have e4 : decide (x2 < 0) = true := decide_eq_true q4
        clear q0 q1 q2 q3 q4
        go_wp2
        go_ret2
        exact HPOST.out _ _ ⟨.slice none 0 0, by rw [HP.out]; rfl, by rw [HP.out]; exact Kd.R_nil _ _ _ _ _, HB2.out⟩
      by_cases q5 : 4503599627370496 < x2
      · have hbad : okA ⟨x0, x1, x2, x3, x4, x5⟩ = false := decide_eq_false (fun h => by obtain ⟨h1, h2, h3, h4, h5, h6, h7⟩ := h; dsimp only at h1 h2 h3 h4 h5 h6 h7; omega)
        have HP : Aside0 (callsP l0 = ([], 1)) := ⟨callsP_bad (by rw [HM.out]; exact hM2) HX.out hbad⟩
        clear hbad
        have e0 : decide (x0 < 0) = false := decide_eq_false q0
        have e1 : decide (5 < x0) = false := decide_eq_false q1
        have e2 : decide (x1 < 0) = false := decide_eq_false q2
        have e3 : decide (4503599627370496 < x1) = false := decide_eq_false q3
        have e4 : decide (x2 < 0) = false := decide_eq_false q4
        have e5 : decide (4503599627370496 < x2) = true := decide_eq_true q5
        clear q0 q1 q2 q3 q4 q5
        go_wp2
        go_ret2
        exact HPOST.out _ _ ⟨.slice none 0 0, by rw [HP.out]; rfl, by rw [HP.out]; exact Kd.R_nil _ _ _ _ _, HB2.out⟩
      have e0 : decide (x0 < 0) = false := decide_eq_false q0
      have e1 : decide (5 < x0) = false := decide_eq_false q1
      have e2 : decide (x1 < 0) = false := decide_eq_false q2
      have e3 : decide (4503599627370496 < x1) = false := decide_eq_false q3
      have e4 : decide (x2 < 0) = false := decide_eq_false q4
      have e5 : decide (4503599627370496 < x2) = false := decide_eq_false q5
      by_cases q6 : x0 = 0
      · have e6 : (x0 == 0) = true := beq_iff_eq.2 q6
        cases hv : isW x4 with
        | true =>
          have hok : okA ⟨x0, x1, x2, x3, x4, x5⟩ = true := decide_eq_true ⟨by dsimp only; omega, by dsimp only; omega, by dsimp only; omega, by dsimp only; omega, by dsimp only; omega, by dsimp only; omega, fun _ => hv⟩
          have HT2 : Aside0 ((l0.take (i + 1)).all okA = true) := ⟨by rw [HT.out]; exact hok⟩
          clear hok
          obtain ⟨q, rfl⟩ : ∃ q, gk = q + 1 := ⟨gk - 1, by omega⟩
          clear q0 q1 q2 q3 q4 q5
          have HV := Aside0.mk hv
          clear hv q6
          go_wp2_with (go_at_call 10; (with_reducible refine (isC_calls x4 hXS _).mono ?_); rintro e w3 ⟨rfl, hb⟩; have HB3 : Aside0 (Below N w w3) := ⟨HB2.out.trans (hb.mono (by have := HB2.out.size; rw [HN.out] at this; exact this))⟩; clear hb; have hv2 := HV.out; rw [hv2]; clear hv2)
          go_roundg q
          case measure => omega
          case rel => exact ⟨i + 1, by simp, by omega, HT2, HB3⟩
        | false =>
          have hbad : okA ⟨x0, x1, x2, x3, x4, x5⟩ = false := decide_eq_false (fun h => by have h7 := h.2.2.2.2.2.2 q6; dsimp only at h7; rw [hv] at h7; cases h7)
          have HP : Aside0 (callsP l0 = ([], 1)) := ⟨callsP_bad (by rw [HM.out]; exact hM2) HX.out hbad⟩
          clear hbad
          have HV := Aside0.mk hv
          clear hv q0 q1 q2 q3 q4 q5 q6
          go_wp2_with (go_at_call 10; (with_reducible refine (isC_calls x4 hXS _).mono ?_); rintro e w3 ⟨rfl, hb⟩; have HB3 : Aside0 (Below N w w3) := ⟨HB2.out.trans (hb.mono (by have := HB2.out.size; rw [HN.out] at this; exact this))⟩; clear hb; have hv2 := HV.out; rw [hv2]; clear hv2)
          go_ret2
          exact HPOST.out _ _ ⟨.slice none 0 0, by rw [HP.out]; rfl, by rw [HP.out]; exact Kd.R_nil _ _ _ _ _, HB3.out⟩
      · have e6 : (x0 == 0) = false := beq_eq_false_iff_ne.2 q6
        have hok : okA ⟨x0, x1, x2, x3, x4, x5⟩ = true := decide_eq_true ⟨by dsimp only; omega, by dsimp only; omega, by dsimp only; omega, by dsimp only; omega, by dsimp only; omega, by dsimp only; omega, fun h => absurd h q6⟩
        have HT2 : Aside0 ((l0.take (i + 1)).all okA = true) := ⟨by rw [HT.out]; exact hok⟩
        clear hok
        obtain ⟨q, rfl⟩ : ∃ q, gk = q + 1 := ⟨gk - 1, by omega⟩
        clear q0 q1 q2 q3 q4 q5
        clear q6
        go_wp2
        go_roundg q
        case measure => omega
        case rel => exact ⟨i + 1, by simp, by omega, HT2, HB2⟩
    · have hi : i = M := by omega
      have HOK : Aside0 (l0.all okA = true) := ⟨by have := HA.out; rw [hi, ← HM.out, List.take_of_length_le (Nat.le_refl _)] at this; exact this⟩
      have hnil : Kd.R kp 40 wr N (fun _ => True) (.slice none 0 0) [] := Kd.R_nil _ _ _ _ _
      have HQ0 : Aside0 (QS N w wr none 0 0 [] (([] : List TA).foldl stepC [])) := ⟨HN.out, HB.out, rfl, hnil, rfl, List.nodup_nil, fun i p y h => by simp at h⟩
      have HI0 : Aside0 (InvC 0 (([] : List TA).foldl stepC [])) := ⟨Nat.le_refl _, fun y hy => by simp at hy⟩
      have e1 : decide ((i : Int) < (M : Int)) = false := decide_eq_false (by omega)
      have e2 : ¬ ((i : Int) < (M : Int)) := by omega
      clear hi HA HB hnil hk
      go_wp2
      go_loopg [6, 65] M (fun kq v6 v65 w' => ∃ (i : Nat) (A6 : Option Addr) (c6 m : Nat) (ps : List Nat), v65 = .int .i64 i ∧ v6 = .slice A6 m c6 ∧ i + kq = M ∧ m ≤ i ∧ Aside0 (QS N w w' A6 c6 m ps ((l0.take i).foldl stepC [])) ∧ Aside0 (InvC i ((l0.take i).foldl stepC [])))
      case atStart => exact ⟨0, none, 0, 0, [], rfl, rfl, by omega, by omega, HQ0, HI0⟩
      case round =>
        clear HQ0 HI0
        obtain ⟨i, A6, c6, m, ps, rfl, rfl, hk, hmi, HQ, HI⟩ := hrel
        by_cases c1 : i < M
        · have i0 : (0 : Int) ≤ (i : Int) := by omega
          have i1 : (i : Int) < (M : Int) := by omega
          have i2 : IntKind.i64.wrap ((i : Int) + 1) = (i : Int) + 1 := by rw [IntKind.wrap_i64]; omega
          obtain ⟨ad, A5, c5, e, y0, y1, y2, y3, y4, y5, _, _⟩ := at_T25 (Kd.C_below HR0.out (by rw [HN.out]; exact HQ.out.below)) i i0 i1
          cases e
          have hil : i < l0.length := by rw [HM.out]; exact c1
          have hrd : rd_T25 l0 (i : Int) = l0[i] := by unfold rd_T25; rw [Int.toNat_natCast, List.getD_eq_getElem?_getD, List.getElem?_eq_getElem hil]; rfl
          have hmem : l0[i] ∈ l0 := List.getElem_mem hil
          obtain ⟨x, hx⟩ : ∃ x, l0[i] = x := ⟨_, rfl⟩
          rw [hx] at hrd hmem
          rw [hrd] at y0 y1 y2 y3 y4 y5
          obtain ⟨L, hL⟩ : ∃ L, (l0.take i).foldl stepC [] = L := ⟨_, rfl⟩
          have HT : Aside0 ((l0.take (i + 1)).foldl stepC [] = stepC L x) := ⟨by rw [List.take_succ_eq_append_getElem hil, hx, List.foldl_append, hL]; rfl⟩
          rw [hL] at HQ HI
          have HXO : Aside0 (okA x = true) := ⟨List.all_eq_true.1 HOK.out x hmem⟩
          have HI1 : Aside0 (InvC (i + 1) (stepC L x)) := ⟨HI.out.step HXO.out⟩
          clear hrd hmem hx hL
          obtain ⟨x0, x1, x2, x3, x4, x5⟩ := x
          dsimp only at y0 y1 y2 y3 y4 y5
          rw [Int.toNat_natCast] at y0 y1 y2 y3 y4 y5
          go_upto_region 13 with ((with_reducible refine gate_dst (N := 8) rfl ?_); refine box_event ?hg (N := 8) ?hd (cs := #[.int .i64 0, .int .i64 0, .int .i64 0, .int .i64 0, .string (⟨#[]⟩ : ByteArray), .slice none 0 0]) (t := 25) ?hr ?_; (case hd => rfl); (case hg => rfl); (case hr => first | (go_simp; done) | (go_simp; rfl)); intro g hg w1 hbox hb; have HBX := Aside0.mk hbox; have HG := Aside0.mk hg; have HB1 := Aside0.mk hb; have z0 : w1.cell? ⟨g, 0, none⟩ = some (.int .i64 0) := (blk_cell hbox 0).trans rfl; have f0 := blk_frozen hbox 0; have z1 : w1.cell? ⟨g, 1, none⟩ = some (.int .i64 0) := (blk_cell hbox 1).trans rfl; have f1 := blk_frozen hbox 1; have z2 : w1.cell? ⟨g, 2, none⟩ = some (.int .i64 0) := (blk_cell hbox 2).trans rfl; have f2 := blk_frozen hbox 2; have z3 : w1.cell? ⟨g, 3, none⟩ = some (.int .i64 0) := (blk_cell hbox 3).trans rfl; have f3 := blk_frozen hbox 3; have z4 : w1.cell? ⟨g, 4, none⟩ = some (.string (⟨#[]⟩ : ByteArray)) := (blk_cell hbox 4).trans rfl; have f4 := blk_frozen hbox 4; have z5 : w1.cell? ⟨g, 5, none⟩ = some (.slice none 0 0) := (blk_cell hbox 5).trans rfl; have f5 := blk_frozen hbox 5; clear hg hb hbox)
          obtain ⟨W2, hW2⟩ : ∃ W2, fill6 w1 g (.int .i64 x0) (.int .i64 x1) (.int .i64 x2) (.int .i64 x3) (.string x4) (.slice A5 x5.length c5) = W2 := ⟨_, rfl⟩
          have HBX2 : Aside0 (W2.heap[g]? = some (.cells #[.int .i64 x0, .int .i64 x1, .int .i64 x2, .int .i64 x3, .string x4, .slice A5 x5.length c5] 25)) := ⟨by rw [← hW2]; exact fill6_blk HBX.out _ _ _ _ _ _⟩
          have HQ2 : Aside0 (QS N w W2 A6 c6 m ps L) := ⟨by rw [← hW2]; exact (HQ.out.move HB1.out).fill HBX.out (by rw [HG.out]; exact HQ.out.size) _ _ _ _ _ _⟩
          have HGN : Aside0 (N ≤ g) := ⟨by rw [HG.out]; exact HQ.out.size⟩
          unfold fill6 at hW2
          rw [hW2]
          clear hW2 z0 z1 z2 z3 z4 z5 f0 f1 f2 f3 f4 f5 y0 y1 y2 y3 y4 y5 HBX HG HB1 HQ
          have HXO2 := of_decide_eq_true HXO.out
          dsimp only at HXO2
          by_cases q1 : idx L x1 0 < 0
          · have HS : Aside0 (stepC L ⟨x0, x1, x2, x3, x4, x5⟩ = L ++ [newC ⟨x0, x1, x2, x3, x4, x5⟩]) := ⟨if_pos q1⟩
            have hR : idx L x1 0 = -1 := by rcases idx_range L x1 0 (by omega) with h | ⟨h, _⟩ <;> omega
            have HR := Aside0.mk hR
            clear hR q1 HXO2
            go_upto_region 17 with (first
              | (go_at_call 11; (with_reducible refine (index.callsm HQ2.out g x0 x1 x2 x3 x4 A5 x5.length c5 HBX2.out).mono ?_); rintro e w3 ⟨rfl, hb⟩; have HQ3 := Aside0.mk (HQ2.out.move hb); have HBX3 := Aside0.mk (blk_below HBX2.out hb); have k1 : w3.cell? ⟨g, 1, none⟩ = some (.int .i64 x1) := blk_cell HBX3.out 1; rw [HR.out]; clear hb)
              | ((with_reducible refine gate_dst (N := 83) rfl ?_); refine box_event ?hg (N := 83) ?hd (cs := #[.int .i64 x1, .int .i64 0, .string ⟨#[63]⟩, .string ⟨#[111, 100, 100]⟩]) (t := 42) ?hr ?_; (case hd => rfl); (case hg => rfl); (case hr => first | (go_simp; done) | (go_simp; rfl)); intro g2 hg2 w4 hbox hb; have HQ4 := Aside0.mk (HQ3.out.move hb); have HBX4 := Aside0.mk (blk_below HBX3.out hb); have HC4 : Aside0 (CallAt w4 g2 ⟨x1, ⟨#[63]⟩, sOdd, 0⟩) := ⟨hbox⟩; have HN4 : Aside0 (∀ p ∈ ps, p < g2) := ⟨by rw [hg2]; exact HQ3.out.lt⟩; have HG4 : Aside0 (N ≤ g2) := ⟨by rw [hg2]; exact HQ3.out.size⟩; have k0 : w4.cell? ⟨g, 0, none⟩ = some (.int .i64 x0) := blk_cell HBX4.out 0; have k4 : w4.cell? ⟨g, 4, none⟩ = some (.string x4) := blk_cell HBX4.out 4; have f2 : w4.frozen? ⟨g2, 2, none⟩ = false := blk_frozen hbox 2; have f3 : w4.frozen? ⟨g2, 3, none⟩ = false := blk_frozen hbox 3; have s2 : w4.cell? ⟨g2, 2, none⟩ = some (.string ⟨#[63]⟩) := (blk_cell hbox 2).trans rfl; have s3 : w4.cell? ⟨g2, 3, none⟩ = some (.string ⟨#[111, 100, 100]⟩) := (blk_cell hbox 3).trans rfl; clear hbox hb hg2))
            by_cases q2 : x0 = 0
            · have e1 : (x0 == 0) = true := beq_iff_eq.2 q2
              have hY : newC ⟨x0, x1, x2, x3, x4, x5⟩ = ⟨x1, x4, sNew, 0⟩ := if_pos q2
              clear q2
              go_upto_region 19 with (fail)
              obtain ⟨W5, hW5⟩ : ∃ W5, (w4.setCell ⟨g2, 2, none⟩ (.string x4)).setCell ⟨g2, 3, none⟩ (.string ⟨#[110, 101, 119]⟩) = W5 := ⟨_, rfl⟩
              have HQ5 : Aside0 (QS N w W5 A6 c6 m ps L) := ⟨by rw [← hW5]; exact (HQ4.out.other HC4.out HG4.out HN4.out 2 _).other ((blk_set HC4.out 2 _).trans rfl) HG4.out HN4.out 3 _⟩
              have HC5 : Aside0 (CallAt W5 g2 ⟨x1, x4, sNew, 0⟩) := ⟨by rw [← hW5]; exact (blk_set ((blk_set HC4.out 2 (.string x4)).trans rfl) 3 _).trans rfl⟩
              rw [hW5]
              clear hW5 k0 k1 k4 f2 f3 s2 s3
              have HC5' : Aside0 (CallAt W5 g2 (newC ⟨x0, x1, x2, x3, x4, x5⟩)) := ⟨by rw [hY]; exact HC5.out⟩
              clear hY HC5
              go_wp2_with ((with_reducible refine gate_builtin (b := .append) (xs := #[.tmp 95, .tmp 97]) rfl ?_); at_builtin; refine Kd.R_append kp (w0 := w) N rfl (.tmp 95) (.tmp 97) 38 40 (.pointer none) 8 rfl Tryd.underlying38 infoP rfl (by decide) (by omega) (.slice A6 m c6) ps g2 [.pointer (some ⟨g2, 0, none⟩)] (fun _ => True) (fun _ => False) rfl rfl rfl (fun _ hk => hk.elim) (fun _ _ => trivial) HQ5.out.row HQ5.out.below HQ5.out.size ?aL ?_; (case aL => rw [HQ5.out.len]; omega); intro v6 w6 ho hb hg hat; obtain ⟨A7, c7, e7, hq⟩ := HQ5.out.join HC5'.out HG4.out HN4.out ho hb hg; subst e7; have HQ6 := Aside0.mk hq; clear ho hb hg hat hq)
              obtain ⟨q, rfl⟩ : ∃ q, gk = q + 1 := ⟨gk - 1, by omega⟩
              go_roundg q
              case measure => omega
              case rel => exact ⟨i + 1, A7, c7, m + 1, ps ++ [g2], by simp, rfl, by omega, by omega, ⟨by rw [HT.out, HS.out]; exact HQ6.out⟩, ⟨by rw [HT.out]; exact HI1.out⟩⟩
            · have e1 : (x0 == 0) = false := beq_eq_false_iff_ne.2 q2
              have hY : newC ⟨x0, x1, x2, x3, x4, x5⟩ = ⟨x1, ⟨#[63]⟩, sOdd, 0⟩ := if_neg q2
              clear q2
              go_upto_region 19 with (fail)
              obtain ⟨W5, hW5⟩ : ∃ W5, w4 = W5 := ⟨_, rfl⟩
              have HQ5 : Aside0 (QS N w W5 A6 c6 m ps L) := ⟨by rw [← hW5]; exact HQ4.out⟩
              have HC5 : Aside0 (CallAt W5 g2 ⟨x1, ⟨#[63]⟩, sOdd, 0⟩) := ⟨by rw [← hW5]; exact HC4.out⟩
              rw [hW5]
              clear hW5 k0 k1 k4 f2 f3 s2 s3
              have HC5' : Aside0 (CallAt W5 g2 (newC ⟨x0, x1, x2, x3, x4, x5⟩)) := ⟨by rw [hY]; exact HC5.out⟩
              clear hY HC5
              go_wp2_with ((with_reducible refine gate_builtin (b := .append) (xs := #[.tmp 95, .tmp 97]) rfl ?_); at_builtin; refine Kd.R_append kp (w0 := w) N rfl (.tmp 95) (.tmp 97) 38 40 (.pointer none) 8 rfl Tryd.underlying38 infoP rfl (by decide) (by omega) (.slice A6 m c6) ps g2 [.pointer (some ⟨g2, 0, none⟩)] (fun _ => True) (fun _ => False) rfl rfl rfl (fun _ hk => hk.elim) (fun _ _ => trivial) HQ5.out.row HQ5.out.below HQ5.out.size ?aL ?_; (case aL => rw [HQ5.out.len]; omega); intro v6 w6 ho hb hg hat; obtain ⟨A7, c7, e7, hq⟩ := HQ5.out.join HC5'.out HG4.out HN4.out ho hb hg; subst e7; have HQ6 := Aside0.mk hq; clear ho hb hg hat hq)
              obtain ⟨q, rfl⟩ : ∃ q, gk = q + 1 := ⟨gk - 1, by omega⟩
              go_roundg q
              case measure => omega
              case rel => exact ⟨i + 1, A7, c7, m + 1, ps ++ [g2], by simp, rfl, by omega, by omega, ⟨by rw [HT.out, HS.out]; exact HQ6.out⟩, ⟨by rw [HT.out]; exact HI1.out⟩⟩
          · have hR : ∃ j : Nat, idx L x1 0 = (j : Int) ∧ j < L.length := by
              rcases idx_range L x1 0 (by omega) with h | ⟨h, h'⟩
              · omega
              · exact ⟨(idx L x1 0).toNat, by omega, by omega⟩
            obtain ⟨j, hj, hjL⟩ := hR
            have HR := Aside0.mk hj
            obtain ⟨y, hy⟩ : ∃ y, L[j] = y := ⟨_, rfl⟩
            have hyL : L[j]? = some y := by rw [List.getElem?_eq_getElem hjL, hy]
            have HS : Aside0 (stepC L ⟨x0, x1, x2, x3, x4, x5⟩ = L.set j (takeC x0 x2 y)) := ⟨by
              show (if idx L x1 0 < 0 then _ else _) = _
              rw [if_neg q1]
              show L.set (idx L x1 0).toNat (takeC x0 x2 (L.getD (idx L x1 0).toNat _)) = _
              rw [hj, Int.toNat_natCast, List.getD_eq_getElem?_getD, hyL]
              rfl⟩
            have hjm : j < m := by have h1 := HQ2.out.at_.1; have h2 := HQ2.out.len; omega
            have hyb := HI.out.all y (List.mem_of_getElem? hyL)
            have HBB : Aside0 (0 ≤ y.f3 + x2 ∧ y.f3 + x2 ≤ 9223372036854775807) := ⟨by
              obtain ⟨_, _, _, _, h5, h6⟩ := hyb
              have : (i : Int) * 4503599627370496 ≤ 200 * 4503599627370496 := Int.mul_le_mul_of_nonneg_right (by omega) (by omega)
              omega⟩
            have HOP : Aside0 (0 ≤ x0 ∧ x0 ≤ 5) := ⟨⟨HXO2.1, HXO2.2.1⟩⟩
            have HYL := Aside0.mk hyL
            obtain ⟨hlen0, hcap, hrow⟩ := Kd.R_reads' HQ2.out.row
            clear hlen0
            obtain ⟨ad6, p, e6, hp, hcell⟩ := kp_at hrow j (by rw [HQ2.out.len]; exact hjm)
            cases e6
            have HP := Aside0.mk hp
            have HCL := Aside0.mk hcell
            have j0 : (0 : Int) ≤ (j : Int) := by omega
            have j1 : (j : Int) < (m : Int) := by omega
            clear hj q1 HXO2 hy hyL hyb hcap hrow hp hcell hjL
            go_upto_region 15 with (go_at_call 11; (with_reducible refine (index.callsm HQ2.out g x0 x1 x2 x3 x4 A5 x5.length c5 HBX2.out).mono ?_); rintro e w3 ⟨rfl, hb⟩; have HQ3 := Aside0.mk (HQ2.out.move hb); have HBX3 := Aside0.mk (blk_below HBX2.out hb); have HCL3 := Aside0.mk ((hb.cell (World.block_lt_of_cell? _ _ HCL.out)).trans HCL.out); rw [HR.out]; clear hb)
            have HCA : Aside0 (CallAt w3 p y) := ⟨(HQ3.out.at_.2.2 j p y HP.out HYL.out).2⟩
            have HCD : Aside0 (CallAt w3.drew p y) := ⟨HCA.out⟩
            have t0 := HCL3.out
            have k0 : w3.cell? ⟨g, 0, none⟩ = some (.int .i64 x0) := blk_cell HBX3.out 0
            have k1 : w3.cell? ⟨g, 1, none⟩ = some (.int .i64 x1) := blk_cell HBX3.out 1
            have k2 : w3.cell? ⟨g, 2, none⟩ = some (.int .i64 x2) := blk_cell HBX3.out 2
            have k3 : w3.cell? ⟨g, 3, none⟩ = some (.int .i64 x3) := blk_cell HBX3.out 3
            have k4 : w3.cell? ⟨g, 4, none⟩ = some (.string x4) := blk_cell HBX3.out 4
            have k5 : w3.cell? ⟨g, 5, none⟩ = some (.slice A5 x5.length c5) := blk_cell HBX3.out 5
            go_region_held3 (fun w' => w'.cell? (ad6.add j) = some (.pointer (some ⟨p, 0, none⟩)) ∧ w'.cell? ⟨g, 0, none⟩ = some (.int .i64 x0) ∧ w'.cell? ⟨g, 1, none⟩ = some (.int .i64 x1) ∧ w'.cell? ⟨g, 2, none⟩ = some (.int .i64 x2) ∧ w'.cell? ⟨g, 3, none⟩ = some (.int .i64 x3) ∧ w'.cell? ⟨g, 4, none⟩ = some (.string x4) ∧ w'.cell? ⟨g, 5, none⟩ = some (.slice A5 x5.length c5)) (first | exact S4.out | exact ⟨t0, k0, k1, k2, k3, k4, k5⟩) (first
              | (go_at_call 13; (with_reducible refine (take.calls p y x0 x1 x2 x3 x4 A5 x5.length c5 w3.drew HCD.out HOP.out.1 HOP.out.2 HBB.out).mono ?_); rintro e w4 ⟨rfl, h1, h2, h3⟩; have HQ4 := Aside0.mk (HQ3.out.drew.take HP.out HYL.out h1 h2 h3); have S4 : Aside0 (w4.cell? (ad6.add j) = some (.pointer (some ⟨p, 0, none⟩)) ∧ w4.cell? ⟨g, 0, none⟩ = some (.int .i64 x0) ∧ w4.cell? ⟨g, 1, none⟩ = some (.int .i64 x1) ∧ w4.cell? ⟨g, 2, none⟩ = some (.int .i64 x2) ∧ w4.cell? ⟨g, 3, none⟩ = some (.int .i64 x3) ∧ w4.cell? ⟨g, 4, none⟩ = some (.string x4) ∧ w4.cell? ⟨g, 5, none⟩ = some (.slice A5 x5.length c5)) := ⟨take_keeps HQ3.out HCL3.out HBX3.out HCA.out (row_ne HQ3.out HCA.out hjm) h3⟩; clear h1 h2 h3))
            go_wp2
            obtain ⟨q, rfl⟩ : ∃ q, gk = q + 1 := ⟨gk - 1, by omega⟩
            go_roundg q
            case measure => omega
            case rel => exact ⟨i + 1, some ad6, c6, m, ps, by simp, rfl, by omega, by omega, ⟨by rw [HT.out, HS.out]; exact HQ4.out⟩, ⟨by rw [HT.out]; exact HI1.out⟩⟩
        · have hi : i = M := by omega
          have HL : Aside0 ((l0.take i).foldl stepC [] = l0.foldl stepC []) := ⟨by rw [hi, ← HM.out, List.take_of_length_le (Nat.le_refl _)]⟩
          rw [HL.out] at HQ HI
          obtain ⟨L, hL⟩ : ∃ L, l0.foldl stepC [] = L := ⟨_, rfl⟩
          rw [hL] at HQ HI
          have HP : Aside0 (callsP l0 = (L.map lineC, 0)) := ⟨by unfold callsP; rw [if_neg (by rw [HM.out]; omega), if_pos HOK.out, hL]⟩
          have HRO : Aside0 (Kd.R Kd.string 9 wr N (fun _ => True) (.slice none 0 0) ((L.take 0).map lineC)) := ⟨Kd.R_nil _ _ _ _ _⟩
          have HLM : Aside0 (L.length = m) := ⟨by have h1 := HQ.out.at_.1; have h2 := HQ.out.len; omega⟩
          have HIN : Aside0 (∀ y ∈ L, 0 ≤ y.f0 ∧ y.f0 ≤ 9223372036854775807 ∧ y.f1.size ≤ 16 ∧ y.f2.size ≤ 7 ∧ 0 ≤ y.f3 ∧ y.f3 ≤ 9223372036854775807) := ⟨fun y hy => by
            obtain ⟨a1, a2, a3, a4, a5, a6⟩ := HI.out.all y hy
            have : (i : Int) * 4503599627370496 ≤ 200 * 4503599627370496 := Int.mul_le_mul_of_nonneg_right (by omega) (by omega)
            exact ⟨a1, by omega, a3, a4, a5, by omega⟩⟩
          have e1 : decide ((i : Int) < (M : Int)) = false := decide_eq_false (by omega)
          have e2 : ¬ ((i : Int) < (M : Int)) := by omega
          have hm2 : m ≤ 200 := by omega
          clear hi hL HI
          go_wp2
          go_loopg [11, 102] m (fun kq v11 v102 w' => ∃ (i : Nat) (A cp : _), v102 = .int .i64 i ∧ v11 = .slice A i cp ∧ i + kq = m ∧ Aside0 (QS N w w' A6 c6 m ps L) ∧ Aside0 (Kd.R Kd.string 9 w' N (fun _ => True) (.slice A i cp) ((L.take i).map lineC)))
          case atStart => exact ⟨0, none, 0, rfl, rfl, by omega, HQ, HRO⟩
          case round =>
            clear HQ HRO
            obtain ⟨i, A, cp, rfl, rfl, hk, HQ, HRO⟩ := hrel
            by_cases c2 : i < m
            · have i0 : (0 : Int) ≤ (i : Int) := by omega
              have i1 : (i : Int) < (m : Int) := by omega
              have i2 : IntKind.i64.wrap ((i : Int) + 1) = (i : Int) + 1 := by rw [IntKind.wrap_i64]; omega
              have hiL : i < L.length := by rw [HLM.out]; exact c2
              obtain ⟨y, hy⟩ : ∃ y, L[i] = y := ⟨_, rfl⟩
              have hyL : L[i]? = some y := by rw [List.getElem?_eq_getElem hiL, hy]
              have HYL : Aside0 ((L.take (i + 1)).map lineC = (L.take i).map lineC ++ [lineC y]) := ⟨by rw [List.take_succ_eq_append_getElem hiL, hy, List.map_append]; rfl⟩
              have HTL : Aside0 (((L.take i).map lineC).length = i) := ⟨by rw [List.length_map, List.length_take]; omega⟩
              obtain ⟨b0, b0', b1', b2', b3, b3'⟩ := HIN.out y (List.mem_of_getElem? hyL)
              obtain ⟨hlen0, hcap, hrow⟩ := Kd.R_reads' HQ.out.row
              clear hlen0
              obtain ⟨ad6, p, e6, hp, hcell⟩ := kp_at hrow i (by rw [HQ.out.len]; exact c2)
              cases e6
              have HCA : Aside0 (CallAt wr p y) := ⟨(HQ.out.at_.2.2 i p y hp hyL).2⟩
              have t0 := hcell
              clear hrow hcap hp hcell hy hyL hiL
              have h1 : ∀ wv : World, Below wr.heap.size wr wv → Calls Tryd.prog 14 #[.int .i64 y.f0] wv fun e w' => e = .returned (.string (itoaB y.f0)) ∧ Below wr.heap.size wr w' := fun wv hb => itoa_calls (by omega) b0' (tab_below HTAB.out (HQ.out.below.trans (hb.mono HQ.out.size)) HN.out) hb
              have h3 : ∀ wv : World, Below wr.heap.size wr wv → Calls Tryd.prog 14 #[.int .i64 y.f3] wv fun e w' => e = .returned (.string (itoaB y.f3)) ∧ Below wr.heap.size wr w' := fun wv hb => itoa_calls (by omega) b3' (tab_below HTAB.out (HQ.out.below.trans (hb.mono HQ.out.size)) HN.out) hb
              have s1 := itoaB_size (n := y.f0) (by omega) b0'
              have s3 := itoaB_size (n := y.f3) (by omega) b3'
              have HLN : Aside0 (lineC y = ((((((itoaB y.f0) ++ (⟨#[32]⟩ : ByteArray)) ++ y.f1) ++ (⟨#[32]⟩ : ByteArray)) ++ y.f2) ++ (⟨#[32]⟩ : ByteArray)) ++ itoaB y.f3) := ⟨rfl⟩
              obtain ⟨n0, a1, a2, n3⟩ := y
              dsimp only at h1 h3 s1 s3 b1' b2' HLN
              obtain ⟨u1, hu1⟩ : ∃ u, itoaB n0 = u := ⟨_, rfl⟩
              obtain ⟨u3, hu3⟩ : ∃ u, itoaB n3 = u := ⟨_, rfl⟩
              rw [hu1] at h1 s1 HLN
              rw [hu3] at h3 s3 HLN
              have H1 := Aside0.mk h1
              have H3 := Aside0.mk h3
              have g1 : (9223372036854775807 < u1.size + 1) = False := eq_false (by omega)
              have g2 : (9223372036854775807 < u1.size + 1 + a1.size) = False := eq_false (by omega)
              have g3 : (9223372036854775807 < u1.size + 1 + a1.size + 1) = False := eq_false (by omega)
              have g4 : (9223372036854775807 < u1.size + 1 + a1.size + 1 + a2.size) = False := eq_false (by omega)
              have g5 : (9223372036854775807 < u1.size + 1 + a1.size + 1 + a2.size + 1) = False := eq_false (by omega)
              have g6 : (9223372036854775807 < u1.size + 1 + a1.size + 1 + a2.size + 1 + u3.size) = False := eq_false (by omega)
              clear h1 h3 hu1 hu3 b0 b0' b1' b2' b3 b3' s1 s3
              go_upto_region 25 with (fail)
              have k0 : wr.cell? ⟨p, 0, none⟩ = some (.int .i64 n0) := blk_cell HCA.out 0
              have k1 : wr.cell? ⟨p, 1, none⟩ = some (.int .i64 n3) := blk_cell HCA.out 1
              have k2 : wr.cell? ⟨p, 2, none⟩ = some (.string a1) := blk_cell HCA.out 2
              have k3 : wr.cell? ⟨p, 3, none⟩ = some (.string a2) := blk_cell HCA.out 3
              clear t0 k0 k1 k2 k3
              go_region_held3 (fun w' => w'.cell? ⟨p, 0, none⟩ = some (.int .i64 n0) ∧ w'.cell? ⟨p, 1, none⟩ = some (.int .i64 n3) ∧ w'.cell? ⟨p, 2, none⟩ = some (.string a1) ∧ w'.cell? ⟨p, 3, none⟩ = some (.string a2)) (first | exact call_cells HC6.out | exact call_cells (CallAt.alloc HC5.out _) | exact call_cells HC5.out | exact call_cells HC4.out | exact call_cells HCA.out) (first
                | (go_at_call 14; (with_reducible refine (H1.out wr.drew (Below.refl _ _).drew).mono ?_); rintro e w4 ⟨rfl, hb⟩; have HB4 := Aside0.mk hb; have HC4 : Aside0 (CallAt w4 p ⟨n0, a1, a2, n3⟩) := ⟨HCA.out.below hb (blk_lt HCA.out)⟩; clear hb)
                | (go_at_call 14; (with_reducible refine (H3.out w4 HB4.out).mono ?_); rintro e w5 ⟨rfl, hb⟩; have HB5 := Aside0.mk hb; have HC5 : Aside0 (CallAt w5 p ⟨n0, a1, a2, n3⟩) := ⟨HCA.out.below hb (blk_lt HCA.out)⟩; have HQ5 := Aside0.mk (HQ.out.move hb); have HR5 := Aside0.mk (Kd.R_below HRO.out hb); clear hb)
                | (refine Kd.R_append_step Kd.string (w0 := w) N (by rfl) (.tmp 106) (.tmp 131) 27 9 (.string ⟨#[]⟩) 16 rfl Tryd.underlying27 info9 rfl (by decide) (by omega) (.slice A i cp) ((L.take i).map lineC) ((((((u1 ++ (⟨#[32]⟩ : ByteArray)) ++ a1) ++ (⟨#[32]⟩ : ByteArray)) ++ a2) ++ (⟨#[32]⟩ : ByteArray)) ++ u3) [.string ((((((u1 ++ (⟨#[32]⟩ : ByteArray)) ++ a1) ++ (⟨#[32]⟩ : ByteArray)) ++ a2) ++ (⟨#[32]⟩ : ByteArray)) ++ u3)] (fun _ => True) (fun _ => False) rfl rfl rfl (fun _ hk => hk.elim) (fun _ _ => trivial) HR5.out HQ5.out.below HQ5.out.size ?aL ?_; (case aL => rw [HTL.out]; omega); intro v6 w6 ho hb hg hat; rw [← HLN.out, ← HYL.out] at ho; have hlen : ((L.take (i + 1)).map lineC).length = i + 1 := (by rw [HYL.out, List.length_append, HTL.out]; rfl); obtain ⟨A7, c7, e7⟩ := Kd.R_slice ho; rw [hlen] at e7; subst e7; have HQ6 := Aside0.mk (HQ5.out.grown HR5.out hg hb); have HR6 := Aside0.mk ho; have HC6 : Aside0 (CallAt w6 p ⟨n0, a1, a2, n3⟩) := ⟨HQ5.out.kept HR5.out hg HC5.out⟩; clear ho hb hg hat hlen))
              go_wp2
              obtain ⟨q, rfl⟩ : ∃ q, gk = q + 1 := ⟨gk - 1, by omega⟩
              go_roundg q
              case measure => omega
              case rel => exact ⟨i + 1, A7, c7, by simp, rfl, by omega, HQ6, HR6⟩
            · have hiE : i = m := by omega
              have HRE : Aside0 (Kd.R Kd.string 9 wr N (fun _ => True) (.slice A i cp) (L.map lineC)) := ⟨by have := HRO.out; rw [show (L.take i).map lineC = L.map lineC by rw [hiE, ← HLM.out, List.take_of_length_le (Nat.le_refl _)]] at this; exact this⟩
              have HBE := Aside0.mk HQ.out.below
              clear HRO HQ
              have e3 : decide ((i : Int) < (m : Int)) = false := decide_eq_false (by omega)
              have e4 : ¬ ((i : Int) < (m : Int)) := by omega
              clear hiE
              go_wp2
              go_ret2
              exact HPOST.out _ _ ⟨_, by rw [HP.out]; rfl, by rw [HP.out]; exact HRE.out, HBE.out⟩
end Go.Proofs.YtbloalfgbpgepaaDoor.T
