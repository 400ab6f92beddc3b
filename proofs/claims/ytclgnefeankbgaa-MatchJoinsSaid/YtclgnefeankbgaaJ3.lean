/- MatchJoins: the walk where all four texts are patterns. Conditions: as each theorem says. -/
import Derived.Test.YtclgnefeankbgaaJ2
namespace Go.Proofs.Ytclgnefeankbgaa.M
open Go Go.RowKit Go.Proofs.YtclgnefeankbgaaW.PrintWords Go.Proofs.YtclgnefeankbgaaW.PrintLast Go.Proofs.YtclgnefeankbgaaW.PrintMore Hand
attribute [local go_sem] Oper.semAt_some max2_int min2_int max_two min_two max_three min_three max_four min_four
set_option linter.unusedVariables false
set_option linter.unusedSimpArgs false
/-- A pattern whose blocks are elder than a place of the memory. -/
def PX (w : World) (lim g : Nat) (x : List ST) : Prop := ∃ s z bk, PT w g s z x bk ∧ g < lim ∧ ∀ k, bk = some k → k < lim
theorem PX.of {w : World} {g : Nat} {s : ByteArray} {z : Int} {x : List ST} {bk : Option Nat} (h : PT w g s z x bk) : PX w w.heap.size g x := ⟨s, z, bk, h, h.ps.lt, fun k hk => h.ps.blt hk⟩
theorem PX.call {w w' : World} {lim g : Nat} {x : List ST} (h : PX w lim g x) (hb : Below w.heap.size w w') : PX w' lim g x := by
  obtain ⟨s, z, bk, h1, h2, h3⟩ := h
  exact ⟨s, z, bk, h1.call hb, h2, h3⟩
theorem PX.mv {w w' : World} {lim g h : Nat} {x : List ST} (H : PX w lim g x) (hm : Mv h w w') (hl : lim ≤ h) : PX w' lim g x := by
  obtain ⟨s, z, bk, h1, h2, h3⟩ := H
  exact ⟨s, z, bk, ⟨h1.ps.mv hm (by omega) (fun e => by have := h3 h e; omega), h1.len, h1.wf⟩, h2, h3⟩
theorem ri_mv {w w' : World} {h base : Nat} {c : List Bool} {v : Value} {l : List Int} (hr : RI w base v l) (hb : BRow w h c) (hm : Mv h w w') : RI w' base v l :=
  Kd.R_mono (Kd.R_step (Kd.R_types hr hb (fun q hq => by
    have : q = 3 := by simpa [Kd.int, Kd.scalar] using hq
    rw [this]
    decide)) fun k hk hlt => hm.block k hlt hk.2) fun _ _ => trivial
/-- What the law has: four patterns, two rows of marks, two rows of ends. -/
structure JM (W w : World) (lim gp gq gb gr : Nat) (x1 x2 x3 x4 : List ST) (g1 g2 : Nat) (c1 c2 : List Bool) (vk vm : Value) (K M : List Int) : Prop where
  p : PX w lim gp x1
  q : PX w lim gq x2
  b : PX w lim gb x3
  r : PX w lim gr x4
  b1 : BRow w g1 c1
  b2 : BRow w g2 c2
  l1 : lim ≤ g1
  l2 : lim ≤ g2
  ne : g1 ≠ g2
  rk : RI w 0 vk K
  rm : RI w 0 vm M
  hb : Below W.heap.size W w
  wl : W.heap.size ≤ lim
section
variable {W w w' : World} {lim gp gq gb gr : Nat} {x1 x2 x3 x4 : List ST} {g1 g2 : Nat} {c1 c2 c : List Bool} {vk vm : Value} {K M : List Int}
theorem JM.call (h : JM W w lim gp gq gb gr x1 x2 x3 x4 g1 g2 c1 c2 vk vm K M) (hb : Below w.heap.size w w') : JM W w' lim gp gq gb gr x1 x2 x3 x4 g1 g2 c1 c2 vk vm K M :=
  ⟨h.p.call hb, h.q.call hb, h.b.call hb, h.r.call hb, h.b1.call hb, h.b2.call hb, h.l1, h.l2, h.ne, h.rk.call hb, h.rm.call hb, h.hb.trans (hb.mono h.hb.size), h.wl⟩
theorem JM.set1 (h : JM W w lim gp gq gb gr x1 x2 x3 x4 g1 g2 c1 c2 vk vm K M) (k : Nat) : JM W (w.setCell ⟨g1, k, none⟩ (.bool true)) lim gp gq gb gr x1 x2 x3 x4 g1 g2 (c1.set k true) c2 vk vm K M := by
  have hm : Mv g1 w (w.setCell ⟨g1, k, none⟩ (.bool true)) := (Mv.refl g1 w).set k _
  exact ⟨h.p.mv hm h.l1, h.q.mv hm h.l1, h.b.mv hm h.l1, h.r.mv hm h.l1, h.b1.put k true, h.b2.far (hm.block g2 (blk_lt h.b2) (Ne.symm h.ne)), h.l1, h.l2, h.ne, ri_mv h.rk h.b1 hm, ri_mv h.rm h.b1 hm, hm.below h.hb (Nat.le_trans h.wl h.l1) h.hb.size, h.wl⟩
theorem JM.set2 (h : JM W w lim gp gq gb gr x1 x2 x3 x4 g1 g2 c1 c2 vk vm K M) (k : Nat) : JM W (w.setCell ⟨g2, k, none⟩ (.bool true)) lim gp gq gb gr x1 x2 x3 x4 g1 g2 c1 (c2.set k true) vk vm K M := by
  have hm : Mv g2 w (w.setCell ⟨g2, k, none⟩ (.bool true)) := (Mv.refl g2 w).set k _
  exact ⟨h.p.mv hm h.l2, h.q.mv hm h.l2, h.b.mv hm h.l2, h.r.mv hm h.l2, h.b1.far (hm.block g1 (blk_lt h.b1) h.ne), h.b2.put k true, h.l1, h.l2, h.ne, ri_mv h.rk h.b2 hm, ri_mv h.rm h.b2 hm, hm.below h.hb (Nat.le_trans h.wl h.l2) h.hb.size, h.wl⟩
end
theorem marks_set {c : List Bool} {P : Nat → Prop} (h : ∀ j, c[j]? = some true ↔ P j) {k : Nat} (hk : k < c.length) : ∀ j, (c.set k true)[j]? = some true ↔ P j ∨ j = k := fun j => by
  have := InS.set (u := j) hk
  unfold InS at this
  rw [this, h]
theorem marks0 (n j : Nat) : (List.replicate n false)[j]? = some true ↔ False := by
  rw [List.getElem?_replicate]
  split <;> simp
theorem take_more {l : List Int} {i : Nat} (hi : i < l.length) (e : Int) : e ∈ l.take (i + 1) ↔ e ∈ l.take i ∨ e = l.getD i 0 := by
  rw [List.take_add_one, List.getElem?_eq_getElem hi, List.mem_append, List.getD_eq_getElem?_getD, List.getElem?_eq_getElem hi]
  simp
theorem endsI_in (xs : List ST) (bs : List Int) (at_ : Int) : ∀ e ∈ endsI xs bs at_, ∃ n : Nat, e = (n : Int) ∧ n ≤ bs.length := by
  intro e he
  unfold endsI at he
  split at he
  · rename_i h
    have := endsP_in xs bs at_.toNat (by omega) e he
    exact ⟨e.toNat, by omega, by omega⟩
  · cases he
section
variable {ops : Array Oper} {rest : List Oper} {o : Oper} {a : Act} {Q : Exit → Act → World → Prop} {w : World}
theorem bool_info : (Try.prog.info? 4).map (fun i => (i.zero, i.size, i.bytes)) = some (some (.bool false), 1, 1) := by kernel_rfl
theorem make_bools (hg : o.guard = none) (l c : Operand) (hop : o.op = .makeSlice 29 l c) (n : Nat) (hl : a.eval l = .int .i64 ((n : Int) + 1)) (hc : a.eval c = .int .i64 ((n : Int) + 1)) (hn : n ≤ 1000) (hK : ∀ w', BRow w' w.heap.size (List.replicate (n + 1) false) → Below w.heap.size w w' → wpList Try.prog ops Q rest (a.put o.dst (.slice (some ⟨w.heap.size, 0, none⟩) (n + 1) (n + 1))) w') : wpList Try.prog ops Q (o :: rest) a w := by
  obtain ⟨i, hi, he⟩ := Option.map_eq_some_iff.1 bool_info
  simp only [Prod.mk.injEq] at he
  obtain ⟨h0, h1, h2⟩ := he
  refine wpList_make_full w hg l c 29 hop w.heap.size 4 i (.bool false) 1 Try.underlying29 hi h0 h1 .i64 .i64 ((n : Int) + 1) ((n : Int) + 1) (n + 1) hl hc rfl rfl (by rw [h2]; omega) (by unfold maxLen; omega) (Nat.le_refl _) fun w' ho hgr => ?_
  exact hK w' (BRow.of ho).1 ⟨hgr.os, hgr.tape, hgr.output, hgr.size, fun k hk => hgr.block k hk (fun e => by cases e)⟩
end
theorem gate_mkS {P : Program} {ops : Array Oper} {rest : List Oper} {o : Oper} {a : Act} {Q : Exit → Act → World → Prop} {w : World} {t : TypeId} {x y : Operand} (_ho : o.op = .makeSlice t x y) (h : wpList P ops Q (o :: rest) a w) : wpList P ops Q (o :: rest) a w := h
set_option maxHeartbeats 32000000 in
set_option maxRecDepth 100000 in
theorem MatchJoins.ok (s t : ByteArray) (A : Option Addr) (c : Nat) (bs : List Int) (at_ : Int) (W : World) (hs : s.size + t.size ≤ 32768) (hb : BY W A bs) (hn : bs.length ≤ 300) (z1 z2 z3 z4 : Int) (x1 x2 x3 x4 : List ST) (h1 : parseR s false = .ok z1 x1) (h2 : parseR t false = .ok z2 x2) (h3 : parseR (joinS s barM t) false = .ok z3 x3) (h4 : parseR (joinS s rowM t) false = .ok z4 x4) :
    Calls Try.prog 3 #[.agg #[.string s, .string t], .slice A bs.length c, .int .i64 at_] W fun e w' => e = .returned (.bool true) ∧ Below W.heap.size W w' := by
  have j3 : (joinS s barM t).size ≤ 9223372036854775807 := by rw [joinS_size]; show s.size + 3 + t.size + 2 ≤ _; omega
  have j4 : (joinS s rowM t).size ≤ 9223372036854775807 := by rw [joinS_size]; show s.size + 2 + t.size + 2 ≤ _; omega
  have p1 := fun W' => Parse.callsT s false W' (by omega)
  have p2 := fun W' => Parse.callsT t false W' (by omega)
  have p3 := fun W' => Parse.callsT (joinS s barM t) false W' j3
  have p4 := fun W' => Parse.callsT (joinS s rowM t) false W' j4
  simp only [h1] at p1
  simp only [h2] at p2
  simp only [h3] at p3
  simp only [h4] at p4
  have HP1 : Aside0 (∀ W', Calls Try.prog 10 #[.string s, .bool false] W' fun e w' => ∃ g b, e = .returned (.tuple #[.pointer (some ⟨g, 0, none⟩), .int .i64 0, .int .i64 0]) ∧ PT w' g (s) z1 x1 b ∧ Below W'.heap.size W' w') := ⟨p1⟩
  have HP2 : Aside0 (∀ W', Calls Try.prog 10 #[.string t, .bool false] W' fun e w' => ∃ g b, e = .returned (.tuple #[.pointer (some ⟨g, 0, none⟩), .int .i64 0, .int .i64 0]) ∧ PT w' g (t) z2 x2 b ∧ Below W'.heap.size W' w') := ⟨p2⟩
  have HP3 : Aside0 (∀ W', Calls Try.prog 10 #[.string ((⟨#[40]⟩ : ByteArray) ++ s ++ ⟨#[41, 124, 40]⟩ ++ t ++ ⟨#[41]⟩), .bool false] W' fun e w' => ∃ g b, e = .returned (.tuple #[.pointer (some ⟨g, 0, none⟩), .int .i64 0, .int .i64 0]) ∧ PT w' g (joinS s barM t) z3 x3 b ∧ Below W'.heap.size W' w') := ⟨p3⟩
  have HP4 : Aside0 (∀ W', Calls Try.prog 10 #[.string ((⟨#[40]⟩ : ByteArray) ++ s ++ ⟨#[41, 40]⟩ ++ t ++ ⟨#[41]⟩), .bool false] W' fun e w' => ∃ g b, e = .returned (.tuple #[.pointer (some ⟨g, 0, none⟩), .int .i64 0, .int .i64 0]) ∧ PT w' g (joinS s rowM t) z4 x4 b ∧ Below W'.heap.size W' w') := ⟨p4⟩
  have hen : ∀ lim g x (at_ : Int) w, PX w lim g x → BY w A bs → Calls Try.prog 11 #[.pointer (some ⟨g, 0, none⟩), .slice A bs.length c, .int .i64 at_] w fun e w' => ∃ (ge : Option Nat) (ce : Nat), e = .returned (.slice (ge.map fun g => ⟨g, 0, none⟩) (endsI x bs at_).length ce) ∧ RI w' 0 (.slice (ge.map fun g => ⟨g, 0, none⟩) (endsI x bs at_).length ce) (endsI x bs at_) ∧ Below w.heap.size w w' := fun lim g x at_ w h1 h2 => by
    obtain ⟨s, z, bk, hpt, _, _⟩ := h1
    refine (Ends.calls g s z x bk A c bs at_ w hpt h2).mono ?_
    rintro e w' ⟨v, rfl, hr, hb⟩
    obtain ⟨ge, ce, hv, _, _⟩ := hr.at_
    subst hv
    exact ⟨ge, ce, rfl, Kd.R_lower hr (Nat.zero_le _), hb⟩
  have HK := Aside0.mk known.calls
  have s1 : s.size ≤ 32768 := by omega
  have s2 : t.size ≤ 32768 := by omega
  have ws : IntKind.i64.wrap ((s.size : Int) + (t.size : Int)) = (s.size : Int) + (t.size : Int) := by rw [IntKind.wrap_i64]; omega
  have d1 : decide ((32768 : Int) < (s.size : Int) + (t.size : Int)) = false := decide_eq_false (by omega)
  have d2 : decide (32768 < s.size + t.size) = false := decide_eq_false (by omega)
  obtain ⟨N, hN⟩ : ∃ N, bs.length = N := ⟨_, rfl⟩
  have HNN := Aside0.mk hN
  have HBW := Aside0.mk hb
  obtain ⟨K, hK⟩ : ∃ K, endsI x1 bs at_ = K := ⟨_, rfl⟩
  obtain ⟨M, hM⟩ : ∃ M, endsI x2 bs at_ = M := ⟨_, rfl⟩
  obtain ⟨B, hB⟩ : ∃ B, endsI x3 bs at_ = B := ⟨_, rfl⟩
  obtain ⟨R, hR⟩ : ∃ R, endsI x4 bs at_ = R := ⟨_, rfl⟩
  have hKin := endsI_in x1 bs at_
  have hMin := endsI_in x2 bs at_
  have hbar : EndsOf (fun j => (j : Int) ∈ K ∨ (j : Int) ∈ M) B := by
    rw [← hK, ← hM, ← hB]
    unfold endsI
    by_cases ha : 0 ≤ at_ ∧ at_ ≤ bs.length
    · simp only [if_pos ha]
      exact ends_bar h1 h2 h3 bs at_.toNat (by omega)
    · simp only [if_neg ha]
      exact ⟨List.Pairwise.nil, fun e => by simp⟩
  have hrow : EndsOf (fun j => ∃ k : Nat, (k : Int) ∈ K ∧ (j : Int) ∈ endsP x2 bs k) R := by
    rw [← hK, ← hR]
    unfold endsI
    by_cases ha : 0 ≤ at_ ∧ at_ ≤ bs.length
    · simp only [if_pos ha]
      exact ends_row h1 h2 h4 bs at_.toNat (by omega)
    · simp only [if_neg ha]
      exact ⟨List.Pairwise.nil, fun e => by simp⟩
  rw [hK] at hKin
  rw [hM] at hMin
  have hke := fun w lim g h1 h2 => hen lim g x1 at_ w h1 h2
  have hme := fun w lim g h1 h2 => hen lim g x2 at_ w h1 h2
  have hbe := fun w lim g h1 h2 => hen lim g x3 at_ w h1 h2
  have hre := fun w lim g h1 h2 => hen lim g x4 at_ w h1 h2
  have hqe : ∀ (k : Nat) w lim g, k ≤ bs.length → PX w lim g x2 → BY w A bs → Calls Try.prog 11 #[.pointer (some ⟨g, 0, none⟩), .slice A bs.length c, .int .i64 (k : Int)] w fun e w' => ∃ (ge : Option Nat) (ce : Nat), e = .returned (.slice (ge.map fun g => ⟨g, 0, none⟩) (endsP x2 bs k).length ce) ∧ RI w' 0 (.slice (ge.map fun g => ⟨g, 0, none⟩) (endsP x2 bs k).length ce) (endsP x2 bs k) ∧ Below w.heap.size w w' := fun k w lim g hk h1 h2 => by
    have h := hen lim g x2 (k : Int) w h1 h2
    have e : endsI x2 bs (k : Int) = endsP x2 bs k := by
      unfold endsI
      rw [if_pos (by omega), Int.toNat_natCast]
    rw [e] at h
    exact h
  obtain ⟨LK, hLK⟩ : ∃ n, K.length = n := ⟨_, rfl⟩
  obtain ⟨LM, hLM⟩ : ∃ n, M.length = n := ⟨_, rfl⟩
  obtain ⟨LB, hLB⟩ : ∃ n, B.length = n := ⟨_, rfl⟩
  obtain ⟨LR, hLR⟩ : ∃ n, R.length = n := ⟨_, rfl⟩
  simp only [hK, hLK, hN] at hke
  simp only [hM, hLM, hN] at hme
  simp only [hB, hLB, hN] at hbe
  simp only [hR, hLR, hN] at hre
  simp only [hN] at hqe hKin hMin hn ⊢
  have hlk : LK ≤ 400 := by
    have := endsP_len x1 bs at_.toNat
    rw [← hLK, ← hK]
    unfold endsI
    split
    · omega
    · simp
  have hlm : LM ≤ 400 := by
    have := endsP_len x2 bs at_.toNat
    rw [← hLM, ← hM]
    unfold endsI
    split
    · omega
    · simp
  have HKE := Aside0.mk hke
  have HME := Aside0.mk hme
  have HBE := Aside0.mk hbe
  have HRE := Aside0.mk hre
  have HQE := Aside0.mk hqe
  have HKI := Aside0.mk hKin
  have HMI := Aside0.mk hMin
  have HBA := Aside0.mk hbar
  have HRO := Aside0.mk hrow
  have HLN := Aside0.mk (And.intro hLK (And.intro hLM (And.intro hLB hLR)))
  have d3 : decide ((300 : Int) < (N : Int)) = false := decide_eq_false (by omega)
  have d4 : decide (300 < N) = false := decide_eq_false (by omega)
  have hN1 : N ≤ 1000 := by omega
  have wN : IntKind.i64.wrap ((N : Int) + 1) = (N : Int) + 1 := by rw [IntKind.wrap_i64]; omega
  have HM0 : Aside0 (∀ j : Nat, (List.replicate (N + 1) false)[j]? = some true ↔ (j : Int) ∈ K.take 0) := ⟨fun j => (marks0 _ j).trans (by simp)⟩
  have HM1 : Aside0 (∀ j : Nat, (List.replicate (N + 1) false)[j]? = some true ↔ ∃ k : Nat, (k : Int) ∈ K.take 0 ∧ (j : Int) ∈ endsP x2 bs k) := ⟨fun j => (marks0 _ j).trans (by simp)⟩
  clear p1 p2 p3 p4 hen hke hme hbe hre hqe hKin hMin hbar hrow hK hM hB hR hLK hLM hLB hLR h1 h2 h3 h4 j3 j4 hs hb hN
  go_enter Try.func3, Try.ntmps3
  go_wp2_with (first
    | (go_at_call 11; (with_reducible refine (HME.out _ _ g2 HE8.out.2.1 (HBW.out.call HE8.out.2.2.2.2.1)).mono ?_); rintro e w9 ⟨gm, cm, rfl, hr, hb⟩; have HJ9 := Aside0.mk (JM.mk (HE8.out.1.call hb) (HE8.out.2.1.call hb) (HE8.out.2.2.1.call hb) (HE8.out.2.2.2.1.call hb) (HR8.out.1.call hb) (HR8.out.2.1.call hb) HL67.out.1 HL67.out.2.1 HL67.out.2.2.1 (HR8.out.2.2.call hb) hr (HE8.out.2.2.2.2.1.trans (hb.mono HE8.out.2.2.2.2.1.size)) HL67.out.2.2.2); clear hr hb)
    | (go_at_call 11; (with_reducible refine (HKE.out _ _ g1 HE7.out.1 (HBW.out.call HE7.out.2.2.2.2)).mono ?_); rintro e w8 ⟨gk, ck, rfl, hr, hb⟩; have HE8 := Aside0.mk (And.intro (HE7.out.1.call hb) (And.intro (HE7.out.2.1.call hb) (And.intro (HE7.out.2.2.1.call hb) (And.intro (HE7.out.2.2.2.1.call hb) (And.intro (HE7.out.2.2.2.2.trans (hb.mono HE7.out.2.2.2.2.size)) trivial))))); have HR8 := Aside0.mk (And.intro (HR7.out.1.call hb) (And.intro (HR7.out.2.call hb) hr)); clear hr hb)
    | ((with_reducible refine gate_mkS (t := 29) (x := .tmp 118) rfl ?_); refine make_bools rfl _ _ rfl N rfl rfl hN1 ?_; intro w7 hr hb; have HR7 := Aside0.mk (And.intro (HR6.out.call hb) hr); have HE7 := Aside0.mk (And.intro (HE6.out.1.call hb) (And.intro (HE6.out.2.1.call hb) (And.intro (HE6.out.2.2.1.call hb) (And.intro (HE6.out.2.2.2.1.call hb) (HE6.out.2.2.2.2.trans (hb.mono HE6.out.2.2.2.2.size)))))); have HL67 : Aside0 (w5.heap.size ≤ w5.heap.size ∧ w5.heap.size ≤ w6.heap.size ∧ w5.heap.size ≠ w6.heap.size ∧ W.heap.size ≤ w5.heap.size) := ⟨Nat.le_refl _, Nat.le_of_lt (blk_lt HR6.out), Nat.ne_of_lt (blk_lt HR6.out), HB5.out.size⟩; clear hr hb)
    | ((with_reducible refine gate_mkS (t := 29) (x := .tmp 114) rfl ?_); refine make_bools rfl _ _ rfl N rfl rfl hN1 ?_; intro w6 hr hb; have HR6 := Aside0.mk hr; have HE6 := Aside0.mk (And.intro (HX.out.1.call hb) (And.intro (HX.out.2.1.call hb) (And.intro (HX.out.2.2.1.call hb) (And.intro (HX.out.2.2.2.call hb) (HB5.out.trans (hb.mono HB5.out.size)))))); clear hr hb)
    | (go_at_call 10; (with_reducible refine (HP4.out _).mono ?_); rintro e w5 ⟨g4, b4, rfl, ht, hb⟩; have HT4 := Aside0.mk ht; have HT14 := Aside0.mk (HT13.out.call hb); have HT24 := Aside0.mk (HT23.out.call hb); have HT34 := Aside0.mk (HT3.out.call hb); have HV5 := Aside0.mk (HV4.out.move hb); have HB5 := Aside0.mk (HB4.out.trans (hb.mono HB4.out.size)); have y2 := (blk_cell HV5.out 0); have y3 := (blk_cell HV5.out 1); have y4a : w5.cell? ⟨r, 0, none⟩ = some (.string s) := y2; have y4b : w5.cell? ⟨r, 1, none⟩ = some (.string t) := y3; have HX := Aside0.mk (And.intro (PX.of HT14.out) (And.intro (PX.of HT24.out) (And.intro (PX.of HT34.out) (PX.of HT4.out)))); clear ht hb y2 y3)
    | (go_at_call 10; (with_reducible refine (HP3.out _).mono ?_); rintro e w4 ⟨g3, b3, rfl, ht, hb⟩; have HT3 := Aside0.mk ht; have HT13 := Aside0.mk (HT12.out.call hb); have HT23 := Aside0.mk (HT2.out.call hb); have HV4 := Aside0.mk (HV3.out.move hb); have HB4 := Aside0.mk (HB3.out.trans (hb.mono HB3.out.size)); have y2 := (blk_cell HV4.out 0); have y3 := (blk_cell HV4.out 1); have y3a : w4.cell? ⟨r, 0, none⟩ = some (.string s) := y2; have y3b : w4.cell? ⟨r, 1, none⟩ = some (.string t) := y3; clear ht hb y2 y3)
    | (go_at_call 10; (with_reducible refine (HP2.out _).mono ?_); rintro e w3 ⟨g2, b2, rfl, ht, hb⟩; have HT2 := Aside0.mk ht; have HT12 := Aside0.mk (HT1.out.call hb); have HV3 := Aside0.mk (HV2.out.move hb); have HB3 := Aside0.mk (HB2.out.trans (hb.mono HB2.out.size)); have y2 := (blk_cell HV3.out 0); have y3 := (blk_cell HV3.out 1); have y2a : w3.cell? ⟨r, 0, none⟩ = some (.string s) := y2; have y2b : w3.cell? ⟨r, 1, none⟩ = some (.string t) := y3; clear ht hb y2 y3)
    | (go_at_call 10; (with_reducible refine (HP1.out _).mono ?_); rintro e w2 ⟨g1, b1, rfl, ht, hb⟩; have HT1 := Aside0.mk ht; have HV2 := Aside0.mk (HV1.out.move hb); have HB2 := Aside0.mk (HB1.out.trans (hb.mono HB1.out.size)); have y2 := (blk_cell HV2.out 0); have y3 := (blk_cell HV2.out 1); have y1a : w2.cell? ⟨r, 0, none⟩ = some (.string s) := y2; have y1b : w2.cell? ⟨r, 1, none⟩ = some (.string t) := y3; clear ht hb y2 y3)
    | ((with_reducible refine gate_box (t := 22) (d := 3) rfl rfl ?_); refine box_2s rfl rfl _ rfl s t rfl ?_; intro r w1 hg1 hc1 hb1; have HB1 := Aside0.mk hb1; have HV1 := Aside0.mk hc1; have y0 : w1.cell? ⟨r, 0, none⟩ = some (.string s) := (blk_cell hc1 0).trans rfl; have y1 : w1.cell? ⟨r, 1, none⟩ = some (.string t) := (blk_cell hc1 1).trans rfl; clear hg1 hc1 hb1))
  go_loopg [23] LK (fun kq v23 w' => ∃ (i : Nat) (c1 c2 : List Bool), v23 = .int .i64 (i : Int) ∧ i + kq = LK ∧ c1.length = N + 1 ∧ c2.length = N + 1 ∧ Aside0 (∀ j : Nat, c1[j]? = some true ↔ (j : Int) ∈ K.take i) ∧ Aside0 (∀ j : Nat, c2[j]? = some true ↔ ∃ k : Nat, (k : Int) ∈ K.take i ∧ (j : Int) ∈ endsP x2 bs k) ∧ Aside0 (JM W w' w5.heap.size g1 g2 g3 g4 x1 x2 x3 x4 w5.heap.size w6.heap.size c1 c2 (.slice (gk.map fun g => ⟨g, 0, none⟩) LK ck) (.slice (gm.map fun g => ⟨g, 0, none⟩) LM cm) K M))
  case atStart => exact ⟨0, _, _, rfl, by omega, by simp, by simp, HM0, HM1, HJ9⟩
  case round =>
    clear HM0 HM1 HJ9
    obtain ⟨i, c1, c2, rfl, hik, hc1, hc2, HM0, HM1, HJ⟩ := hrel
    cases gk with
    | zero =>
      have e1 : decide ((i : Int) < (LK : Int)) = false := decide_eq_false (by omega)
      have e2 : decide (i < LK) = false := decide_eq_false (by omega)
      have hKt : K.take i = K := List.take_of_length_le (by rw [HLN.out.1]; omega)
      have hm0 := HM0.out
      have hm1 := HM1.out
      rw [hKt] at hm0 hm1
      have HMA : Aside0 (∀ j : Nat, c1[j]? = some true ↔ (j : Int) ∈ K ∨ (j : Int) ∈ M.take 0) := ⟨fun j => (hm0 j).trans (by simp)⟩
      have hR := marks_of HRO.out (fun j => (hm1 j).symm)
      have HRM := Aside0.mk hR
      clear hm0 hm1 hKt hR HM0 HM1 hik
      go_wp2
      go_loopg [26] LM (fun kq v26 w' => ∃ (m : Nat) (c1 : List Bool), v26 = .int .i64 (m : Int) ∧ m + kq = LM ∧ c1.length = N + 1 ∧ Aside0 (∀ j : Nat, c1[j]? = some true ↔ (j : Int) ∈ K ∨ (j : Int) ∈ M.take m) ∧ Aside0 (JM W w' w5.heap.size g1 g2 g3 g4 x1 x2 x3 x4 w5.heap.size w6.heap.size c1 c2 (.slice (gk.map fun g => ⟨g, 0, none⟩) LK ck) (.slice (gm.map fun g => ⟨g, 0, none⟩) LM cm) K M))
      case atStart => exact ⟨0, c1, rfl, by omega, hc1, HMA, HJ⟩
      case round =>
        clear HMA HJ hc1
        obtain ⟨m, c1, rfl, hmk, hc1, HMA, HJ⟩ := hrel
        cases gk with
        | zero =>
          have e3 : decide ((m : Int) < (LM : Int)) = false := decide_eq_false (by omega)
          have e4 : decide (m < LM) = false := decide_eq_false (by omega)
          have hMt : M.take m = M := List.take_of_length_le (by rw [HLN.out.2.1]; omega)
          have hma := HMA.out
          rw [hMt] at hma
          have hB := marks_of HBA.out (fun j => (hma j).symm)
          have HBM := Aside0.mk hB
          have HCL := Aside0.mk (And.intro hc1 hc2)
          have hN9 : N + 1 ≤ 1000 := by omega
          clear hMt hma hB HMA hmk
          go_wp2_with (first
            | (go_at_call 9; (with_reducible refine (HK.out _).mono ?_); rintro e we ⟨rfl, hb⟩; have HJE := Aside0.mk (HJD.out.call hb); clear hb)
            | (go_at_call 12; (with_reducible refine (set.calls 0 gR cR LR R w6.heap.size c2 (N + 1) (N + 1) _ HLN.out.2.2.2 HRR.out HCL.out.2 hN9 HJC.out.b2 HRM.out).mono ?_); rintro e wd ⟨rfl, hb⟩; have HJD := Aside0.mk (HJC.out.call hb); clear hb)
            | (go_at_call 11; (with_reducible refine (HRE.out _ _ g4 HJB.out.r (HBW.out.call HJB.out.hb)).mono ?_); rintro e wc ⟨gR, cR, rfl, hr, hb⟩; have HJC := Aside0.mk (HJB.out.call hb); have HRR := Aside0.mk hr; clear hr hb)
            | (go_at_call 12; (with_reducible refine (set.calls 0 gB cB LB B w5.heap.size c1 (N + 1) (N + 1) _ HLN.out.2.2.1 HRB.out HCL.out.1 hN9 HJA.out.b1 HBM.out).mono ?_); rintro e wb ⟨rfl, hb⟩; have HJB := Aside0.mk (HJA.out.call hb); clear hb)
            | (go_at_call 11; (with_reducible refine (HBE.out _ _ g3 HJ.out.b (HBW.out.call HJ.out.hb)).mono ?_); rintro e wa ⟨gB, cB, rfl, hr, hb⟩; have HJA := Aside0.mk (HJ.out.call hb); have HRB := Aside0.mk hr; clear hr hb))
          go_ret
          exact ⟨rfl, HJE.out.hb⟩
        | succ q =>
          have hmL : m < LM := by omega
          have e3 : decide ((m : Int) < (LM : Int)) = true := decide_eq_true (by omega)
          have e4 : decide (m < LM) = true := decide_eq_true hmL
          have u2 : (0 : Int) ≤ (m : Int) := by omega
          have u3 : (m : Int) < (LM : Int) := by omega
          have wm : IntKind.i64.wrap ((m : Int) + 1) = (m : Int) + 1 := by rw [IntKind.wrap_i64]; omega
          have hml : m < M.length := by rw [HLN.out.2.1]; exact hmL
          obtain ⟨bm, hgm, k0⟩ := HJ.out.rm.cell hml
          obtain ⟨y, hy, hyN⟩ := HMI.out (M.getD m 0) (by rw [List.getD_eq_getElem?_getD, List.getElem?_eq_getElem hml]; exact List.getElem_mem _)
          rw [hy] at k0
          have v0 : (0 : Int) ≤ (y : Int) := by omega
          have v1 : (y : Int) < (N : Int) + 1 := by omega
          have v2 : y < N + 1 := by omega
          have f1 : decide ((y : Int) < 0) = false := decide_eq_false (by omega)
          have f2 : decide ((N : Int) < (y : Int)) = false := decide_eq_false (by omega)
          have f3 : decide (N < y) = false := decide_eq_false (by omega)
          have hyl : y < c1.length := by omega
          obtain ⟨ob, hob⟩ : ∃ b, c1[y]? = some b := ⟨_, List.getElem?_eq_getElem hyl⟩
          have kb := HJ.out.b1.cell hob
          have kf := blk_frozen HJ.out.b1 y
          have HJ2 := Aside0.mk (HJ.out.set1 y)
          have hms := marks_set HMA.out hyl
          have HMB : Aside0 (∀ j : Nat, (c1.set y true)[j]? = some true ↔ (j : Int) ∈ K ∨ (j : Int) ∈ M.take (m + 1)) := ⟨fun j => by
            rw [hms j, take_more hml, hy]
            constructor
            · rintro ((h | h) | h)
              · exact .inl h
              · exact .inr (.inl h)
              · exact .inr (.inr (by omega))
            · rintro (h | h | h)
              · exact .inl (.inl h)
              · exact .inl (.inr h)
              · exact .inr (by omega)⟩
          have hlen1 : (c1.set y true).length = N + 1 := by rw [List.length_set]; exact hc1
          have hmq : m + 1 + q = LM := by omega
          subst hgm
          clear hy hob hms hml hmk hyl
          go_wp2
          go_roundg q
          case measure => omega
          case rel => exact ⟨m + 1, c1.set y true, rfl, hmq, hlen1, HMB, HJ2⟩
    | succ q =>
      have hiL : i < LK := by omega
      have e1 : decide ((i : Int) < (LK : Int)) = true := decide_eq_true (by omega)
      have e2 : decide (i < LK) = true := decide_eq_true hiL
      have u2 : (0 : Int) ≤ (i : Int) := by omega
      have u3 : (i : Int) < (LK : Int) := by omega
      have wi : IntKind.i64.wrap ((i : Int) + 1) = (i : Int) + 1 := by rw [IntKind.wrap_i64]; omega
      have hil : i < K.length := by rw [HLN.out.1]; exact hiL
      obtain ⟨bk, hgk, k0⟩ := HJ.out.rk.cell hil
      obtain ⟨y, hy, hyN⟩ := HKI.out (K.getD i 0) (by rw [List.getD_eq_getElem?_getD, List.getElem?_eq_getElem hil]; exact List.getElem_mem _)
      rw [hy] at k0
      have v0 : (0 : Int) ≤ (y : Int) := by omega
      have v1 : (y : Int) < (N : Int) + 1 := by omega
      have v2 : y < N + 1 := by omega
      have f1 : decide ((y : Int) < 0) = false := decide_eq_false (by omega)
      have f2 : decide ((N : Int) < (y : Int)) = false := decide_eq_false (by omega)
      have f3 : decide (N < y) = false := decide_eq_false (by omega)
      have hyl : y < c1.length := by omega
      obtain ⟨ob, hob⟩ : ∃ b, c1[y]? = some b := ⟨_, List.getElem?_eq_getElem hyl⟩
      have kb := HJ.out.b1.cell hob
      have kf := blk_frozen HJ.out.b1 y
      have hj2 := HJ.out.set1 y
      have HJ2 := Aside0.mk hj2
      obtain ⟨bk2, hgk2, k2⟩ := hj2.rk.cell hil
      rw [hgk] at hgk2
      cases hgk2
      rw [hy] at k2
      have hms := marks_set HM0.out hyl
      have HMB : Aside0 (∀ j : Nat, (c1.set y true)[j]? = some true ↔ (j : Int) ∈ K.take (i + 1)) := ⟨fun j => by
        rw [hms j, take_more hil, hy]
        constructor
        · rintro (h | h)
          · exact .inl h
          · exact .inr (by omega)
        · rintro (h | h)
          · exact .inl h
          · exact .inr (by omega)⟩
      obtain ⟨E, hE⟩ : ∃ E, endsP x2 bs y = E := ⟨_, rfl⟩
      obtain ⟨LE, hLE⟩ : ∃ n, E.length = n := ⟨_, rfl⟩
      have HLE := Aside0.mk hLE
      have hEin : ∀ e ∈ E, ∃ n : Nat, e = (n : Int) ∧ n ≤ N := fun e he => by
        rw [← hE] at he
        have := endsP_in x2 bs y (by rw [HNN.out]; exact hyN) e he
        rw [HNN.out] at this
        exact ⟨e.toNat, by omega, by omega⟩
      have HEI := Aside0.mk hEin
      have hlb := endsP_len x2 bs y
      rw [hE, hLE, HNN.out] at hlb
      have hqc := fun w lim g h1 h2 => HQE.out y w lim g hyN h1 h2
      simp only [hE, hLE] at hqc
      have HQC := Aside0.mk hqc
      have HMC : Aside0 (∀ j : Nat, (∃ k : Nat, (k : Int) ∈ K.take (i + 1) ∧ (j : Int) ∈ endsP x2 bs k) ↔ (∃ k : Nat, (k : Int) ∈ K.take i ∧ (j : Int) ∈ endsP x2 bs k) ∨ (j : Int) ∈ E) := ⟨fun j => by
        constructor
        · rintro ⟨k, h1, h2⟩
          rw [take_more hil, hy] at h1
          rcases h1 with h1 | h1
          · exact .inl ⟨k, h1, h2⟩
          · have e : k = y := by omega
            rw [e, hE] at h2
            exact .inr h2
        · rintro (⟨k, h1, h2⟩ | h)
          · exact ⟨k, (take_more hil _).2 (.inl h1), h2⟩
          · exact ⟨y, (take_more hil _).2 (.inr hy.symm), by rw [hE]; exact h⟩⟩
      have HME0 : Aside0 (∀ j : Nat, c2[j]? = some true ↔ (∃ k : Nat, (k : Int) ∈ K.take i ∧ (j : Int) ∈ endsP x2 bs k) ∨ (j : Int) ∈ E.take 0) := ⟨fun j => (HM1.out j).trans (by simp)⟩
      have hlen1 : (c1.set y true).length = N + 1 := by rw [List.length_set]; exact hc1
      have hiq : i + 1 + q = LK := by omega
      subst hgk
      clear hy hob hms hil hik hyl hE hLE hEin hqc hj2 HM0 HM1
      go_wp2_with (go_at_call 11; (with_reducible refine (HQC.out _ _ g2 HJ2.out.q (HBW.out.call HJ2.out.hb)).mono ?_); rintro e wa ⟨ge, ce, rfl, hr, hb⟩; have HJ3 := Aside0.mk (HJ2.out.call hb); have HRE3 := Aside0.mk hr; clear hr hb)
      go_loopg [25] LE (fun kq v25 w' => ∃ (m : Nat) (c2 : List Bool), v25 = .int .i64 (m : Int) ∧ m + kq = LE ∧ c2.length = N + 1 ∧ Aside0 (∀ j : Nat, c2[j]? = some true ↔ (∃ k : Nat, (k : Int) ∈ K.take i ∧ (j : Int) ∈ endsP x2 bs k) ∨ (j : Int) ∈ E.take m) ∧ Aside0 (JM W w' w5.heap.size g1 g2 g3 g4 x1 x2 x3 x4 w5.heap.size w6.heap.size (c1.set y true) c2 (.slice ((some bk).map fun g => ⟨g, 0, none⟩) LK ck) (.slice (gm.map fun g => ⟨g, 0, none⟩) LM cm) K M) ∧ Aside0 (RI w' 0 (.slice (ge.map fun g => ⟨g, 0, none⟩) LE ce) E))
      case atStart => exact ⟨0, c2, rfl, by omega, hc2, HME0, HJ3, HRE3⟩
      case round =>
        clear HME0 HJ3 HRE3 k0 k2 kb kf f1 f2 f3 v0 v1 v2 hc2
        obtain ⟨m, c2, rfl, hmk, hc2, HME1, HJ4, HRE4⟩ := hrel
        cases gk with
        | zero =>
          have e3 : decide ((m : Int) < (LE : Int)) = false := decide_eq_false (by omega)
          have e4 : decide (m < LE) = false := decide_eq_false (by omega)
          have hEt : E.take m = E := List.take_of_length_le (by rw [HLE.out]; omega)
          have hme := HME1.out
          rw [hEt] at hme
          have HMD : Aside0 (∀ j : Nat, c2[j]? = some true ↔ ∃ k : Nat, (k : Int) ∈ K.take (i + 1) ∧ (j : Int) ∈ endsP x2 bs k) := ⟨fun j => (hme j).trans (HMC.out j).symm⟩
          clear hEt hme hmk
          go_wp2
          go_roundg q
          case measure => omega
          case rel => exact ⟨i + 1, c1.set y true, c2, rfl, hiq, hlen1, hc2, HMB, HMD, HJ4⟩
        | succ q3 =>
          have hmL : m < LE := by omega
          have e3 : decide ((m : Int) < (LE : Int)) = true := decide_eq_true (by omega)
          have e4 : decide (m < LE) = true := decide_eq_true hmL
          have u4 : (0 : Int) ≤ (m : Int) := by omega
          have u5 : (m : Int) < (LE : Int) := by omega
          have wm : IntKind.i64.wrap ((m : Int) + 1) = (m : Int) + 1 := by rw [IntKind.wrap_i64]; omega
          have hml : m < E.length := by rw [HLE.out]; exact hmL
          obtain ⟨be, hge, k3⟩ := HRE4.out.cell hml
          obtain ⟨x, hx, hxN⟩ := HEI.out (E.getD m 0) (by rw [List.getD_eq_getElem?_getD, List.getElem?_eq_getElem hml]; exact List.getElem_mem _)
          rw [hx] at k3
          have v3 : (0 : Int) ≤ (x : Int) := by omega
          have v4 : (x : Int) < (N : Int) + 1 := by omega
          have v5 : x < N + 1 := by omega
          have f1 : decide ((x : Int) < 0) = false := decide_eq_false (by omega)
          have f2 : decide ((N : Int) < (x : Int)) = false := decide_eq_false (by omega)
          have f3 : decide (N < x) = false := decide_eq_false (by omega)
          have hxl : x < c2.length := by omega
          obtain ⟨ob, hob⟩ : ∃ b, c2[x]? = some b := ⟨_, List.getElem?_eq_getElem hxl⟩
          have kb := HJ4.out.b2.cell hob
          have kf := blk_frozen HJ4.out.b2 x
          have HJ5 := Aside0.mk (HJ4.out.set2 x)
          have HRE5 := Aside0.mk (ri_mv HRE4.out HJ4.out.b2 ((Mv.refl w6.heap.size wr).set x (.bool true)))
          have hms := marks_set HME1.out hxl
          have HMF : Aside0 (∀ j : Nat, (c2.set x true)[j]? = some true ↔ (∃ k : Nat, (k : Int) ∈ K.take i ∧ (j : Int) ∈ endsP x2 bs k) ∨ (j : Int) ∈ E.take (m + 1)) := ⟨fun j => by
            rw [hms j, take_more hml, hx]
            constructor
            · rintro ((h | h) | h)
              · exact .inl h
              · exact .inr (.inl h)
              · exact .inr (.inr (by omega))
            · rintro (h | h | h)
              · exact .inl (.inl h)
              · exact .inl (.inr h)
              · exact .inr (by omega)⟩
          have hlen2 : (c2.set x true).length = N + 1 := by rw [List.length_set]; exact hc2
          have hmq : m + 1 + q3 = LE := by omega
          subst hge
          clear hx hob hms hml hmk hxl
          go_wp2
          go_roundg q3
          case measure => omega
          case rel => exact ⟨m + 1, c2.set x true, rfl, hmq, hlen2, HMF, HJ5, HRE5⟩
end Go.Proofs.Ytclgnefeankbgaa.M
