/- Classes of bytes: their words, and the functions on them walked. Conditions: as each theorem says. -/
import Derived.Test.YtclgnefeankbgaaProg
import Derived.Test.YtclgnefeankbgaaWMore
import Derived.Test.YtclgnefeankbgaaHPure
import Derived.Test.YtclgnefeankbgaaHKey
import Derived.Deep.RegionLaw
import Derived.WalkSpells
import Derived.BigRegion
import Derived.BigQuiet
import Derived.Deep.RegionHeld3
import Derived.Recover
import Derived.WalkSmall
namespace Go.Proofs.Ytclgnefeankbgaa.M
open Go Go.RowKit Go.Proofs.YtclgnefeankbgaaW.PrintWords Go.Proofs.YtclgnefeankbgaaW.PrintLast Go.Proofs.YtclgnefeankbgaaW.PrintMore Hand
attribute [local go_sem] Oper.semAt_some max2_int min2_int max_two min_two max_three min_three max_four min_four
set_option linter.unusedVariables false
set_option linter.unusedSimpArgs false
/-- A class: four words. -/
structure C4 where
  a : Int
  b : Int
  c : Int
  d : Int
deriving DecidableEq
def C4.wd (c : C4) (i : Nat) : Int := match i with | 0 => c.a | 1 => c.b | 2 => c.c | _ => c.d
def C4.put (c : C4) (i : Nat) (x : Int) : C4 := match i with | 0 => { c with a := x } | 1 => { c with b := x } | 2 => { c with c := x } | _ => { c with d := x }
def C4.cells (c : C4) : Array Value := #[.int .u64 c.a, .int .u64 c.b, .int .u64 c.c, .int .u64 c.d]
def C4.nil : C4 := ⟨0, 0, 0, 0⟩
/-- A class lies at block g. -/
def ClAt (W : World) (g : Nat) (c : C4) : Prop := W.heap[g]? = some (.cells c.cells 64 (0, 0))
theorem ClAt.cell {W : World} {g : Nat} {c : C4} (h : ClAt W g c) (i : Nat) (hi : i < 4) : W.cell? ⟨g, i, none⟩ = some (.int .u64 (c.wd i)) := by
  rw [blk_cell h i]
  rcases (by omega : i = 0 ∨ i = 1 ∨ i = 2 ∨ i = 3) with rfl | rfl | rfl | rfl <;> rfl
theorem ClAt.fz {W : World} {g : Nat} {c : C4} (h : ClAt W g c) (i : Nat) : W.frozen? ⟨g, i, none⟩ = false := blk_frozen h i
theorem ClAt.put {W : World} {g : Nat} {c : C4} (h : ClAt W g c) (i : Nat) (hi : i < 4) (x : Int) : ClAt (W.setCell ⟨g, i, none⟩ (.int .u64 x)) g (c.put i x) := by
  refine (blk_set h i _).trans ?_
  rcases (by omega : i = 0 ∨ i = 1 ∨ i = 2 ∨ i = 3) with rfl | rfl | rfl | rfl <;> rfl
theorem ClAt.far {W W' : World} {g : Nat} {c : C4} (h : ClAt W g c) (hk : W'.heap[g]? = W.heap[g]?) : ClAt W' g c := hk.trans h
/-- All but block g is as it was. -/
structure Mv (g : Nat) (W w' : World) : Prop where
  os : w'.os = W.os
  tape : w'.tape = W.tape
  output : w'.output = W.output
  size : W.heap.size ≤ w'.heap.size
  block : ∀ k, k < W.heap.size → k ≠ g → w'.heap[k]? = W.heap[k]?
theorem Mv.refl (g : Nat) (W : World) : Mv g W W := ⟨rfl, rfl, rfl, Nat.le_refl _, fun _ _ _ => rfl⟩
theorem Mv.trans {g : Nat} {A B C : World} (h : Mv g A B) (k : Mv g B C) : Mv g A C := ⟨k.os.trans h.os, k.tape.trans h.tape, k.output.trans h.output, Nat.le_trans h.size k.size, fun i hi hg => (k.block i (Nat.lt_of_lt_of_le hi h.size) hg).trans (h.block i hi hg)⟩
theorem Mv.of_below {g : Nat} {A B : World} (h : Below A.heap.size A B) : Mv g A B := ⟨h.os, h.tape, h.output, h.size, fun k hk _ => h.block k hk⟩
theorem Mv.drew {g : Nat} {A B : World} (h : Mv g A B) : Mv g A B.drew := ⟨h.os, h.tape, h.output, h.size, h.block⟩
theorem Mv.drewN {g : Nat} {A B : World} (h : Mv g A B) (n : Nat) : Mv g A (B.drewN n) := ⟨h.os, h.tape, h.output, h.size, h.block⟩
theorem Mv.set {g : Nat} {A B : World} (h : Mv g A B) (i : Nat) (u : Value) : Mv g A (B.setCell ⟨g, i, none⟩ u) := ⟨h.os, h.tape, h.output, by simpa using h.size, fun k hk hg => (Below.heap_setCell B ⟨g, i, none⟩ u k hg).trans (h.block k hk hg)⟩
theorem Mv.below {g N : Nat} {A B C : World} (h : Mv g B C) (hb : Below N A B) (hg : N ≤ g) (hN : N ≤ B.heap.size) : Below N A C := ⟨h.os.trans hb.os, h.tape.trans hb.tape, h.output.trans hb.output, Nat.le_trans hb.size h.size, fun k hk => (h.block k (Nat.lt_of_lt_of_le hk hN) (by omega)).trans (hb.block k hk)⟩
theorem and_u8_all : ∀ n : Fin 256, Go.bits .and .u8 ((n.val : Nat) : Int) 63 = ((n.val : Nat) : Int) % 64 := by decide +kernel
theorem and_u8_63 {b : Int} (h0 : 0 ≤ b) (h1 : b ≤ 255) : Go.bits .and .u8 b 63 = b % 64 := by
  have := and_u8_all ⟨b.toNat, by omega⟩
  simpa [Int.toNat_of_nonneg h0] using this
/-- The bit of a byte in its word. -/
def bitM (b : Int) : Int := IntKind.u64.wrap (2 ^ min (b % 64).toNat 64)
def addC (c : C4) (b : Int) : C4 := c.put (b / 64).toNat (Go.bits .or .u64 (c.wd (b / 64).toNat) (bitM b))
def hasC (c : C4) (b : Int) : Bool := Go.bits .and .u64 (c.wd (b / 64).toNat / 2 ^ min (b % 64).toNat 64) 1 == 1
theorem quarter {b : Int} (h0 : 0 ≤ b) (h1 : b ≤ 255) : b / 64 = 0 ∨ b / 64 = 1 ∨ b / 64 = 2 ∨ b / 64 = 3 := by omega
set_option maxHeartbeats 4000000 in
set_option maxRecDepth 100000 in
theorem add.calls (g : Nat) (c : C4) (b : Int) (W : World) (h : ClAt W g c) (h0 : 0 ≤ b) (h1 : b ≤ 255) :
    Calls Try.prog 96 #[.pointer (some ⟨g, 0, none⟩), .int .u8 b] W fun e w' => e = .returned (.tuple #[]) ∧ ClAt w' g (addC c b) ∧ Mv g W w' := by
  have HC := Aside0.mk h
  have k0 : W.cell? ⟨g, 0, none⟩ = some (.int .u64 c.a) := (blk_cell h 0).trans rfl
  have k1 : W.cell? ⟨g, 1, none⟩ = some (.int .u64 c.b) := (blk_cell h 1).trans rfl
  have k2 : W.cell? ⟨g, 2, none⟩ = some (.int .u64 c.c) := (blk_cell h 2).trans rfl
  have k3 : W.cell? ⟨g, 3, none⟩ = some (.int .u64 c.d) := (blk_cell h 3).trans rfl
  have f0 := blk_frozen h 0
  have f1 := blk_frozen h 1
  have f2 := blk_frozen h 2
  have f3 := blk_frozen h 3
  have HQ := Aside0.mk (quarter h0 h1)
  have HR := Aside0.mk (And.intro h0 h1)
  have hx0 : 0 ≤ Go.bits .and .u8 b 63 := by rw [and_u8_63 h0 h1]; omega
  clear h h0 h1
  have HA : Aside0 (addC c b = c.put (b / 64).toNat (Go.bits .or .u64 (c.wd (b / 64).toNat) (bitM b))) := ⟨rfl⟩
  have HM : Aside0 (bitM b = IntKind.u64.wrap (2 ^ min (Go.bits .and .u8 b 63).toNat 64)) := ⟨by rw [and_u8_63 HR.out.1 HR.out.2]; rfl⟩
  obtain ⟨x, hx⟩ : ∃ x, Go.bits .and .u8 b 63 = x := ⟨_, rfl⟩
  rw [hx] at hx0 HM
  rcases HQ.out with q | q | q | q
  · go_enter Try.func96, Try.ntmps96
    go_region
    go_end0
    refine ⟨rfl, ?_, ((Mv.refl g W).set _ _).drew⟩
    rw [HA.out, q, HM.out]
    exact (blk_set HC.out 0 _).trans rfl
  · go_enter Try.func96, Try.ntmps96
    go_region
    go_end0
    refine ⟨rfl, ?_, ((Mv.refl g W).set _ _).drew⟩
    rw [HA.out, q, HM.out]
    exact (blk_set HC.out 1 _).trans rfl
  · go_enter Try.func96, Try.ntmps96
    go_region
    go_end0
    refine ⟨rfl, ?_, ((Mv.refl g W).set _ _).drew⟩
    rw [HA.out, q, HM.out]
    exact (blk_set HC.out 2 _).trans rfl
  · go_enter Try.func96, Try.ntmps96
    go_region
    go_end0
    refine ⟨rfl, ?_, ((Mv.refl g W).set _ _).drew⟩
    rw [HA.out, q, HM.out]
    exact (blk_set HC.out 3 _).trans rfl
set_option maxHeartbeats 4000000 in
set_option maxRecDepth 100000 in
theorem has.calls (c : C4) (b : Int) (W : World) (h0 : 0 ≤ b) (h1 : b ≤ 255) :
    Calls Try.prog 57 #[.agg c.cells, .int .u8 b] W fun e w' => e = .returned (.bool (hasC c b)) ∧ Below W.heap.size W w' := by
  obtain ⟨ca, cb, cc, cd⟩ := c
  have HQ := Aside0.mk (quarter h0 h1)
  have hx0 : 0 ≤ Go.bits .and .u8 b 63 := by rw [and_u8_63 h0 h1]; omega
  have HM : Aside0 (hasC ⟨ca, cb, cc, cd⟩ b = (Go.bits .and .u64 (C4.wd ⟨ca, cb, cc, cd⟩ (b / 64).toNat / 2 ^ min (Go.bits .and .u8 b 63).toNat 64) 1 == 1)) := ⟨by rw [and_u8_63 h0 h1]; rfl⟩
  obtain ⟨x, hx⟩ : ∃ x, Go.bits .and .u8 b 63 = x := ⟨_, rfl⟩
  rw [hx] at hx0 HM
  clear h0 h1
  unfold C4.cells
  rcases HQ.out with q | q | q | q
  · go_enter Try.func57, Try.ntmps57
    go_wp2
    go_ret
    exact ⟨by rw [HM.out, q]; rfl, below_alloc (Below.refl _ _) _⟩
  · go_enter Try.func57, Try.ntmps57
    go_wp2
    go_ret
    exact ⟨by rw [HM.out, q]; rfl, below_alloc (Below.refl _ _) _⟩
  · go_enter Try.func57, Try.ntmps57
    go_wp2
    go_ret
    exact ⟨by rw [HM.out, q]; rfl, below_alloc (Below.refl _ _) _⟩
  · go_enter Try.func57, Try.ntmps57
    go_wp2
    go_ret
    exact ⟨by rw [HM.out, q]; rfl, below_alloc (Below.refl _ _) _⟩
theorem load4 {P : Program} {T : TypeId} {g : Nat} {W : World} {v0 v1 v2 v3 : Value} {fr : Nat × Nat} (h : W.heap[g]? = some (.cells #[v0, v1, v2, v3] T fr)) (ha : (isAgg T).run P W = .ok true W) (hs : (sizeOf T).run P W = .ok 4 W) : (loadVar T ⟨g, 0, none⟩).run P W = .ok (.agg #[v0, v1, v2, v3]) W := by
  have c0 : W.cell? ⟨g, 0, none⟩ = some v0 := cell_of_row W g 0 _ T fr h
  have c1 : W.cell? ⟨g, 1, none⟩ = some v1 := cell_of_row W g 1 _ T fr h
  have c2 : W.cell? ⟨g, 2, none⟩ = some v2 := cell_of_row W g 2 _ T fr h
  have c3 : W.cell? ⟨g, 3, none⟩ = some v3 := cell_of_row W g 3 _ T fr h
  simp [loadVar, Sem.run_bind, ha, hs, loadCells, c0, c1, c2, c3, go_sem]
theorem clAgg (W : World) : (isAgg 64).run Try.prog W = .ok true W := by kernel_rfl
theorem clSize (W : World) : (sizeOf 64).run Try.prog W = .ok 4 W := by kernel_rfl
theorem results_cl {fn : Func} {p : Tmp} (h : fn.results = #[.cell p 64]) (tmps : Array Value) (W : World) {g : Nat} {c : C4} (hp : tmps.getD p undef = .pointer (some ⟨g, 0, none⟩)) (hc : ClAt W g c) : (results fn tmps).run Try.prog W = .ok (.agg c.cells) W := by
  have hp' : tmps[p]?.getD undef = .pointer (some ⟨g, 0, none⟩) := by simpa using hp
  have hl := load4 (P := Try.prog) hc (clAgg W) (clSize W)
  simp [results, h, hp', asAddr, hl, C4.cells]
def notW (x : Int) : Int := Go.bits .xor .u64 IntKind.u64.max x
def othersN (c : C4) : Nat → C4
  | 0 => c
  | n + 1 => (othersN c n).put n (notW ((othersN c n).wd n))
theorem fill4 {W : World} {g : Nat} {z : C4} (h : ClAt W g z) (c : C4) : ClAt ((((W.setCell ⟨g, 0, none⟩ (.int .u64 c.a)).setCell ⟨g, 1, none⟩ (.int .u64 c.b)).setCell ⟨g, 2, none⟩ (.int .u64 c.c)).setCell ⟨g, 3, none⟩ (.int .u64 c.d)) g c := (((h.put 0 (by decide) c.a).put 1 (by decide) c.b).put 2 (by decide) c.c).put 3 (by decide) c.d
theorem fill4_below {w W : World} {N g : Nat} (h : Below N w W) (hg : N ≤ g) (v0 v1 v2 v3 : Value) : Below N w ((((W.setCell ⟨g, 0, none⟩ v0).setCell ⟨g, 1, none⟩ v1).setCell ⟨g, 2, none⟩ v2).setCell ⟨g, 3, none⟩ v3) := (((h.setCell (p := ⟨g, 0, none⟩) hg _).setCell (p := ⟨g, 1, none⟩) hg _).setCell (p := ⟨g, 2, none⟩) hg _).setCell (p := ⟨g, 3, none⟩) hg _
theorem cl_new (W : World) (c : C4) : ClAt (W.alloc (.cells c.cells 64)) W.heap.size c := blk_new W _
set_option maxHeartbeats 4000000 in
set_option maxRecDepth 100000 in
theorem others.calls (c : C4) (W : World) :
    Calls Try.prog 82 #[.agg c.cells] W fun e w' => e = .returned (.agg (othersN c 4).cells) ∧ Below W.heap.size W w' := by
  have hb0 : Below W.heap.size W (W.alloc (.cells c.cells 64)) := below_alloc (Below.refl _ _) _
  have hc0 := cl_new W c
  have hb1 := below_alloc hb0 (.cells C4.nil.cells 64)
  have hc1 : ClAt ((W.alloc (.cells c.cells 64)).alloc (.cells C4.nil.cells 64)) W.heap.size c := hc0.far (Below.heap_alloc _ _ _ (by rw [World.size_alloc]; omega))
  have hn1 := cl_new (W.alloc (.cells c.cells 64)) C4.nil
  rw [World.size_alloc] at hn1
  have HB1 := Aside0.mk hb1
  have HC1 := Aside0.mk hc1
  have HN1 := Aside0.mk hn1
  clear hb0 hc0 hb1 hc1 hn1
  obtain ⟨r, hr⟩ : ∃ r, (Value.agg (othersN c 4).cells) = r := ⟨_, rfl⟩
  have HR := Aside0.mk hr
  rw [hr]
  clear hr
  go_enter Try.func82, Try.ntmps82
  unfold C4.cells
  go_wp2
  go_loopg [4] 4 (fun kq v4 w' => ∃ i : Nat, v4 = .int .i64 i ∧ i + kq = 4 ∧ Aside0 (ClAt w' W.heap.size (othersN c i)) ∧ Aside0 (ClAt w' (W.heap.size + 1) C4.nil) ∧ Aside0 (Below W.heap.size W w'))
  case atStart => exact ⟨0, rfl, by omega, HC1, HN1, HB1⟩
  case round =>
    clear HC1 HN1 HB1
    obtain ⟨i, rfl, hk, HC, HN, HB⟩ := hrel
    by_cases c1 : i < 4
    · have i0 : (0 : Int) ≤ (i : Int) := by omega
      have i1 : (i : Int) < 4 := by omega
      have y0 := HC.out.cell i c1
      have f0 := HC.out.fz i
      go_wp2
      obtain ⟨q, rfl⟩ : ∃ q, gk = q + 1 := ⟨gk - 1, by omega⟩
      go_roundg q
      case measure => omega
      case rel => exact ⟨i + 1, by simp, by omega, ⟨HC.out.put i c1 _⟩, ⟨HN.out.far (Below.heap_setCell _ _ _ _ (by simp))⟩, ⟨HB.out.setCell (Nat.le_refl _) _⟩⟩
    · have e1 : ¬ ((i : Int) < 4) := by omega
      have e2 : i = 4 := by omega
      subst e2
      have y0 : wr.cell? ⟨W.heap.size, 0, none⟩ = some (.int .u64 (othersN c 4).a) := HC.out.cell 0 (by decide)
      have y1 : wr.cell? ⟨W.heap.size, 1, none⟩ = some (.int .u64 (othersN c 4).b) := HC.out.cell 1 (by decide)
      have y2 : wr.cell? ⟨W.heap.size, 2, none⟩ = some (.int .u64 (othersN c 4).c) := HC.out.cell 2 (by decide)
      have y3 : wr.cell? ⟨W.heap.size, 3, none⟩ = some (.int .u64 (othersN c 4).d) := HC.out.cell 3 (by decide)
      have z0 : wr.cell? ⟨W.heap.size + 1, 0, none⟩ = some (.int .u64 0) := HN.out.cell 0 (by decide)
      have z1 : wr.cell? ⟨W.heap.size + 1, 1, none⟩ = some (.int .u64 0) := HN.out.cell 1 (by decide)
      have z2 : wr.cell? ⟨W.heap.size + 1, 2, none⟩ = some (.int .u64 0) := HN.out.cell 2 (by decide)
      have z3 : wr.cell? ⟨W.heap.size + 1, 3, none⟩ = some (.int .u64 0) := HN.out.cell 3 (by decide)
      have f0 := HN.out.fz 0
      have f1 := HN.out.fz 1
      have f2 := HN.out.fz 2
      have f3 := HN.out.fz 3
      go_wp2
      (try simp only [Exit.inBlock, Exit.then])
      refine bodyPost_ret (results_cl rfl _ _ rfl (fill4 HN.out (othersN c 4))) rfl ?_
      exact ⟨by rw [HR.out], fill4_below HB.out (Nat.le_succ _) _ _ _ _⟩
theorem two_cl (W : World) (c z : C4) : Below W.heap.size W ((W.alloc (.cells c.cells 64)).alloc (.cells z.cells 64)) ∧ ClAt ((W.alloc (.cells c.cells 64)).alloc (.cells z.cells 64)) W.heap.size c ∧ ClAt ((W.alloc (.cells c.cells 64)).alloc (.cells z.cells 64)) (W.heap.size + 1) z := by
  have hn1 := cl_new (W.alloc (.cells c.cells 64)) z
  rw [World.size_alloc] at hn1
  exact ⟨below_alloc (below_alloc (Below.refl _ _) _) _, (cl_new W c).far (Below.heap_alloc _ _ _ (by rw [World.size_alloc]; omega)), hn1⟩
theorem three_cl (W : World) (c d z : C4) : Below W.heap.size W (((W.alloc (.cells c.cells 64)).alloc (.cells d.cells 64)).alloc (.cells z.cells 64)) ∧ ClAt (((W.alloc (.cells c.cells 64)).alloc (.cells d.cells 64)).alloc (.cells z.cells 64)) W.heap.size c ∧ ClAt (((W.alloc (.cells c.cells 64)).alloc (.cells d.cells 64)).alloc (.cells z.cells 64)) (W.heap.size + 1) d ∧ ClAt (((W.alloc (.cells c.cells 64)).alloc (.cells d.cells 64)).alloc (.cells z.cells 64)) (W.heap.size + 2) z := by
  obtain ⟨h1, h2, h3⟩ := two_cl W c d
  have hn1 := cl_new ((W.alloc (.cells c.cells 64)).alloc (.cells d.cells 64)) z
  rw [World.size_alloc, World.size_alloc] at hn1
  exact ⟨below_alloc h1 _, h2.far (Below.heap_alloc _ _ _ (by rw [World.size_alloc, World.size_alloc]; omega)), h3.far (Below.heap_alloc _ _ _ (by rw [World.size_alloc, World.size_alloc]; omega)), hn1⟩
def joinN (c d : C4) : Nat → C4
  | 0 => c
  | n + 1 => (joinN c d n).put n (Go.bits .or .u64 ((joinN c d n).wd n) (d.wd n))
set_option maxHeartbeats 4000000 in
set_option maxRecDepth 100000 in
theorem join.calls (c d : C4) (W : World) :
    Calls Try.prog 100 #[.agg c.cells, .agg d.cells] W fun e w' => e = .returned (.agg (joinN c d 4).cells) ∧ Below W.heap.size W w' := by
  obtain ⟨hb1, hc1, hd1, hn1⟩ := three_cl W c d C4.nil
  have HB1 := Aside0.mk hb1
  have HC1 := Aside0.mk hc1
  have HD1 := Aside0.mk hd1
  have HN1 := Aside0.mk hn1
  clear hb1 hc1 hn1 hd1
  obtain ⟨r, hr⟩ : ∃ r, (Value.agg (joinN c d 4).cells) = r := ⟨_, rfl⟩
  have HR := Aside0.mk hr
  rw [hr]
  clear hr
  go_enter Try.func100, Try.ntmps100
  unfold C4.cells
  go_wp2
  go_loopg [6] 4 (fun kq v6 w' => ∃ i : Nat, v6 = .int .i64 i ∧ i + kq = 4 ∧ Aside0 (ClAt w' W.heap.size (joinN c d i)) ∧ Aside0 (ClAt w' (W.heap.size + 1) d) ∧ Aside0 (ClAt w' (W.heap.size + 2) C4.nil) ∧ Aside0 (Below W.heap.size W w'))
  case atStart => exact ⟨0, rfl, by omega, HC1, HD1, HN1, HB1⟩
  case round =>
    clear HC1 HN1 HB1 HD1
    obtain ⟨i, rfl, hk, HC, HD, HN, HB⟩ := hrel
    by_cases c1 : i < 4
    · have i0 : (0 : Int) ≤ (i : Int) := by omega
      have i1 : (i : Int) < 4 := by omega
      have y0 := HC.out.cell i c1
      have d0 := HD.out.cell i c1
      have f0 := HC.out.fz i
      go_wp2
      go_region
      go_wp2
      obtain ⟨q, rfl⟩ : ∃ q, gk = q + 1 := ⟨gk - 1, by omega⟩
      go_roundg q
      case measure => omega
      case rel => exact ⟨i + 1, by simp, by omega, ⟨HC.out.put i c1 _⟩, ⟨HD.out.far (Below.heap_setCell _ _ _ _ (by simp))⟩, ⟨HN.out.far (Below.heap_setCell _ _ _ _ (by simp))⟩, ⟨(HB.out.setCell (p := ⟨W.heap.size, i, none⟩) (Nat.le_refl _) _).drew⟩⟩
    · have e1 : ¬ ((i : Int) < 4) := by omega
      have e2 : i = 4 := by omega
      subst e2
      have y0 : wr.cell? ⟨W.heap.size, 0, none⟩ = some (.int .u64 (joinN c d 4).a) := HC.out.cell 0 (by decide)
      have y1 : wr.cell? ⟨W.heap.size, 1, none⟩ = some (.int .u64 (joinN c d 4).b) := HC.out.cell 1 (by decide)
      have y2 : wr.cell? ⟨W.heap.size, 2, none⟩ = some (.int .u64 (joinN c d 4).c) := HC.out.cell 2 (by decide)
      have y3 : wr.cell? ⟨W.heap.size, 3, none⟩ = some (.int .u64 (joinN c d 4).d) := HC.out.cell 3 (by decide)
      have z0 : wr.cell? ⟨W.heap.size + 2, 0, none⟩ = some (.int .u64 0) := HN.out.cell 0 (by decide)
      have z1 : wr.cell? ⟨W.heap.size + 2, 1, none⟩ = some (.int .u64 0) := HN.out.cell 1 (by decide)
      have z2 : wr.cell? ⟨W.heap.size + 2, 2, none⟩ = some (.int .u64 0) := HN.out.cell 2 (by decide)
      have z3 : wr.cell? ⟨W.heap.size + 2, 3, none⟩ = some (.int .u64 0) := HN.out.cell 3 (by decide)
      have f0 := HN.out.fz 0
      have f1 := HN.out.fz 1
      have f2 := HN.out.fz 2
      have f3 := HN.out.fz 3
      go_wp2
      (try simp only [Exit.inBlock, Exit.then])
      refine bodyPost_ret (results_cl rfl _ _ rfl (fill4 HN.out (joinN c d 4))) rfl ?_
      exact ⟨by rw [HR.out], fill4_below HB.out (Nat.le_add_right _ 2) _ _ _ _⟩
def onlyC (b : Int) : C4 := addC C4.nil b
set_option maxHeartbeats 4000000 in
set_option maxRecDepth 100000 in
theorem only.calls (b : Int) (W : World) (h0 : 0 ≤ b) (h1 : b ≤ 255) :
    Calls Try.prog 81 #[.int .u8 b] W fun e w' => e = .returned (.agg (onlyC b).cells) ∧ Below W.heap.size W w' := by
  obtain ⟨hb1, hn1, hc1⟩ := two_cl W C4.nil C4.nil
  have HB1 := Aside0.mk hb1
  have HC1 := Aside0.mk hc1
  have HN1 := Aside0.mk hn1
  have HS1 : Aside0 (((W.alloc (.cells C4.nil.cells 64)).alloc (.cells C4.nil.cells 64)).heap.size = W.heap.size + 2) := ⟨by rw [World.size_alloc, World.size_alloc]⟩
  have H0 := Aside0.mk (And.intro h0 h1)
  obtain ⟨c, hc⟩ : ∃ c, onlyC b = c := ⟨_, rfl⟩
  have HQ := Aside0.mk hc
  rw [hc]
  clear hb1 hc1 hn1 h0 h1 hc
  obtain ⟨r, hr⟩ : ∃ r, (Value.agg c.cells) = r := ⟨_, rfl⟩
  have HR := Aside0.mk hr
  rw [hr]
  clear hr
  go_enter Try.func81, Try.ntmps81
  go_upto_region 2 with (fail)
  obtain ⟨W2, hW2⟩ : ∃ W2, (W.alloc (.cells C4.nil.cells 64)).alloc (.cells C4.nil.cells 64) = W2 := ⟨_, rfl⟩
  rw [hW2] at HB1 HC1 HN1 HS1
  unfold C4.cells C4.nil at hW2
  rw [hW2]
  clear hW2
  go_upto_region 3 with (go_at_call 96; (with_reducible refine (add.calls (W.heap.size + 1) C4.nil b W2 HC1.out H0.out.1 H0.out.2).mono ?_); rintro e w3 ⟨rfl, hc, hm⟩; have HC3 : Aside0 (ClAt w3 (W.heap.size + 1) c) := ⟨by rw [← HQ.out]; exact hc⟩; have HN3 : Aside0 (ClAt w3 W.heap.size C4.nil) := ⟨HN1.out.far (hm.block _ (by rw [HS1.out]; omega) (by omega))⟩; have HB3 : Aside0 (Below W.heap.size W w3) := ⟨hm.below HB1.out (Nat.le_succ _) (by rw [HS1.out]; omega)⟩; clear hc hm)
  have y0 : w3.cell? ⟨W.heap.size + 1, 0, none⟩ = some (.int .u64 c.a) := HC3.out.cell 0 (by decide)
  have z0 : w3.cell? ⟨W.heap.size, 0, none⟩ = some (.int .u64 0) := HN3.out.cell 0 (by decide)
  have f0 := HN3.out.fz 0
  have y1 : w3.cell? ⟨W.heap.size + 1, 1, none⟩ = some (.int .u64 c.b) := HC3.out.cell 1 (by decide)
  have z1 : w3.cell? ⟨W.heap.size, 1, none⟩ = some (.int .u64 0) := HN3.out.cell 1 (by decide)
  have f1 := HN3.out.fz 1
  have y2 : w3.cell? ⟨W.heap.size + 1, 2, none⟩ = some (.int .u64 c.c) := HC3.out.cell 2 (by decide)
  have z2 : w3.cell? ⟨W.heap.size, 2, none⟩ = some (.int .u64 0) := HN3.out.cell 2 (by decide)
  have f2 := HN3.out.fz 2
  have y3 : w3.cell? ⟨W.heap.size + 1, 3, none⟩ = some (.int .u64 c.d) := HC3.out.cell 3 (by decide)
  have z3 : w3.cell? ⟨W.heap.size, 3, none⟩ = some (.int .u64 0) := HN3.out.cell 3 (by decide)
  have f3 := HN3.out.fz 3
  go_wp2
  (try simp only [Exit.inBlock, Exit.then])
  refine bodyPost_ret (results_cl rfl _ _ rfl (fill4 HN3.out c)) rfl ?_
  exact ⟨by rw [HR.out], fill4_below HB3.out (Nat.le_refl _) _ _ _ _⟩
/-- The bytes from one on, so many. -/
def rangeN (a : Int) : Nat → C4
  | 0 => C4.nil
  | n + 1 => addC (rangeN a n) (a + n)
set_option maxHeartbeats 4000000 in
set_option maxRecDepth 100000 in
theorem rangeOf.calls (a b : Int) (n : Nat) (W : World) (h0 : 0 ≤ a) (h1 : b ≤ 255) (hn : a ≤ b + 1) (hb : a + n = b + 1) :
    Calls Try.prog 99 #[.int .u8 a, .int .u8 b] W fun e w' => e = .returned (.agg (rangeN a n).cells) ∧ Below W.heap.size W w' := by
  obtain ⟨hb1, hn1, hc1⟩ := two_cl W C4.nil C4.nil
  have HB1 := Aside0.mk hb1
  have HC1 := Aside0.mk hc1
  have HN1 := Aside0.mk hn1
  have HS1 : Aside0 (W.heap.size + 2 ≤ ((W.alloc (.cells C4.nil.cells 64)).alloc (.cells C4.nil.cells 64)).heap.size) := ⟨by rw [World.size_alloc, World.size_alloc]; omega⟩
  clear hb1 hc1 hn1
  obtain ⟨r, hr⟩ : ∃ r, (Value.agg (rangeN a n).cells) = r := ⟨_, rfl⟩
  have HR := Aside0.mk hr
  rw [hr]
  clear hr
  have w0 : IntKind.i64.wrap a = a := by rw [IntKind.wrap_i64]; omega
  have w1 : IntKind.i64.wrap b = b := by rw [IntKind.wrap_i64]; omega
  go_enter Try.func99, Try.ntmps99
  go_wp2
  go_loopg [6] n (fun kq v6 w' => ∃ i : Nat, v6 = .int .i64 (a + i) ∧ i + kq = n ∧ Aside0 (ClAt w' (W.heap.size + 1) (rangeN a i)) ∧ Aside0 (ClAt w' W.heap.size C4.nil) ∧ Aside0 (Below W.heap.size W w') ∧ Aside0 (W.heap.size + 2 ≤ w'.heap.size))
  case atStart => exact ⟨0, by simp, by omega, HC1, HN1, HB1, HS1⟩
  case round =>
    clear HC1 HN1 HB1 HS1
    obtain ⟨i, rfl, hk, HC, HN, HB, HS⟩ := hrel
    by_cases c1 : i < n
    · have i2 : a + (i : Int) ≤ b := by omega
      have w2 : IntKind.i64.wrap (a + (i : Int) + 1) = a + (i : Int) + 1 := by rw [IntKind.wrap_i64]; omega
      have w3 : IntKind.u8.wrap (a + (i : Int)) = a + (i : Int) := by rw [IntKind.wrap_u8]; omega
      have H0 : Aside0 (0 ≤ a + (i : Int) ∧ a + (i : Int) ≤ 255) := ⟨by omega⟩
      go_wp2_with (go_at_call 96; (with_reducible refine (add.calls (W.heap.size + 1) (rangeN a i) (a + (i : Int)) _ HC.out H0.out.1 H0.out.2).mono ?_); rintro e w5 ⟨rfl, hc, hm⟩; have HC5 : Aside0 (ClAt w5 (W.heap.size + 1) (rangeN a (i + 1))) := ⟨hc⟩; have HN5 : Aside0 (ClAt w5 W.heap.size C4.nil) := ⟨HN.out.far (hm.block _ (Nat.lt_of_lt_of_le (by omega) HS.out) (by omega))⟩; have HB5 : Aside0 (Below W.heap.size W w5) := ⟨hm.below HB.out (Nat.le_succ _) (Nat.le_trans (Nat.le_add_right _ 2) HS.out)⟩; have HS5 : Aside0 (W.heap.size + 2 ≤ w5.heap.size) := ⟨Nat.le_trans HS.out hm.size⟩; clear hc hm)
      obtain ⟨q, rfl⟩ : ∃ q, gk = q + 1 := ⟨gk - 1, by omega⟩
      go_roundg q
      case measure => omega
      case rel => exact ⟨i + 1, by simp; omega, by omega, HC5, HN5, HB5, HS5⟩
    · have e1 : ¬ (a + (i : Int) ≤ b) := by omega
      have e2 : i = n := by omega
      subst e2
      have y0 : wr.cell? ⟨W.heap.size + 1, 0, none⟩ = some (.int .u64 (rangeN a i).a) := HC.out.cell 0 (by decide)
      have y1 : wr.cell? ⟨W.heap.size + 1, 1, none⟩ = some (.int .u64 (rangeN a i).b) := HC.out.cell 1 (by decide)
      have y2 : wr.cell? ⟨W.heap.size + 1, 2, none⟩ = some (.int .u64 (rangeN a i).c) := HC.out.cell 2 (by decide)
      have y3 : wr.cell? ⟨W.heap.size + 1, 3, none⟩ = some (.int .u64 (rangeN a i).d) := HC.out.cell 3 (by decide)
      have z0 : wr.cell? ⟨W.heap.size, 0, none⟩ = some (.int .u64 0) := HN.out.cell 0 (by decide)
      have z1 : wr.cell? ⟨W.heap.size, 1, none⟩ = some (.int .u64 0) := HN.out.cell 1 (by decide)
      have z2 : wr.cell? ⟨W.heap.size, 2, none⟩ = some (.int .u64 0) := HN.out.cell 2 (by decide)
      have z3 : wr.cell? ⟨W.heap.size, 3, none⟩ = some (.int .u64 0) := HN.out.cell 3 (by decide)
      have f0 := HN.out.fz 0
      have f1 := HN.out.fz 1
      have f2 := HN.out.fz 2
      have f3 := HN.out.fz 3
      go_wp2
      (try simp only [Exit.inBlock, Exit.then])
      refine bodyPost_ret (results_cl rfl _ _ rfl (fill4 HN.out (rangeN a i))) rfl ?_
      exact ⟨by rw [HR.out], fill4_below HB.out (Nat.le_refl _) _ _ _ _⟩
end Go.Proofs.Ytclgnefeankbgaa.M
namespace Go.Proofs.Ytclgnefeankbgaa.M
open Go Go.RowKit Go.Proofs.YtclgnefeankbgaaW.PrintWords Go.Proofs.YtclgnefeankbgaaW.PrintLast Go.Proofs.YtclgnefeankbgaaW.PrintMore Hand
attribute [local go_sem] Oper.semAt_some max2_int min2_int max_two min_two max_three min_three max_four min_four
set_option linter.unusedVariables false
set_option linter.unusedSimpArgs false
def foldN (c : C4) : Nat → C4
  | 0 => c
  | n + 1 => if hasC (foldN c n) (97 + n) = true ∨ hasC (foldN c n) (97 + n - 32) = true then addC (addC (foldN c n) (97 + n)) (97 + n - 32) else foldN c n
set_option maxHeartbeats 4000000 in
set_option maxRecDepth 100000 in
theorem folded.calls (c : C4) (W : World) :
    Calls Try.prog 103 #[.agg c.cells] W fun e w' => e = .returned (.agg (foldN c 26).cells) ∧ Below W.heap.size W w' := by
  obtain ⟨hb1, hc1, hn1⟩ := two_cl W c C4.nil
  have HB1 := Aside0.mk hb1
  have HC1 := Aside0.mk hc1
  have HN1 := Aside0.mk hn1
  have HS1 : Aside0 (W.heap.size + 2 ≤ ((W.alloc (.cells c.cells 64)).alloc (.cells C4.nil.cells 64)).heap.size) := ⟨by rw [World.size_alloc, World.size_alloc]; omega⟩
  clear hb1 hc1 hn1
  obtain ⟨r, hr⟩ : ∃ r, (Value.agg (foldN c 26).cells) = r := ⟨_, rfl⟩
  have HR := Aside0.mk hr
  rw [hr]
  clear hr
  go_enter Try.func103, Try.ntmps103
  unfold C4.cells
  go_wp2
  go_loopg [3] 26 (fun kq v3 w' => ∃ i : Nat, v3 = .int .u8 (97 + i) ∧ i + kq = 26 ∧ Aside0 (ClAt w' W.heap.size (foldN c i)) ∧ Aside0 (ClAt w' (W.heap.size + 1) C4.nil) ∧ Aside0 (Below W.heap.size W w') ∧ Aside0 (W.heap.size + 2 ≤ w'.heap.size))
  case atStart => exact ⟨0, by simp, by omega, HC1, HN1, HB1, HS1⟩
  case round =>
    clear HC1 HN1 HB1 HS1
    obtain ⟨i, rfl, hk, HC, HN, HB, HS⟩ := hrel
    by_cases c1 : i < 26
    · have i1 : 97 + (i : Int) ≤ 122 := by omega
      have w2 : IntKind.u8.wrap (97 + (i : Int) + 1) = 97 + (i : Int) + 1 := by rw [IntKind.wrap_u8]; omega
      have w3 : IntKind.u8.wrap (97 + (i : Int) - 32) = 97 + (i : Int) - 32 := by rw [IntKind.wrap_u8]; omega
      have H0 : Aside0 (0 ≤ 97 + (i : Int) ∧ 97 + (i : Int) ≤ 255) := ⟨by omega⟩
      have H1 : Aside0 (0 ≤ 97 + (i : Int) - 32 ∧ 97 + (i : Int) - 32 ≤ 255) := ⟨by omega⟩
      obtain ⟨x, hx⟩ : ∃ x, foldN c i = x := ⟨_, rfl⟩
      have HX : Aside0 (foldN c (i + 1) = if hasC x (97 + (i : Int)) = true ∨ hasC x (97 + (i : Int) - 32) = true then addC (addC x (97 + (i : Int))) (97 + (i : Int) - 32) else x) := ⟨by rw [foldN, hx]⟩
      rw [hx] at HC
      clear hx
      obtain ⟨t1, ht1⟩ : ∃ t, hasC x (97 + (i : Int)) = t := ⟨_, rfl⟩
      obtain ⟨t2, ht2⟩ : ∃ t, hasC x (97 + (i : Int) - 32) = t := ⟨_, rfl⟩
      rw [ht1, ht2] at HX
      have HT1 := Aside0.mk ht1
      have HT2 := Aside0.mk ht2
      clear ht1 ht2
      have HAS1 : Aside0 (∀ W', Calls Try.prog 57 #[.agg #[.int .u64 x.a, .int .u64 x.b, .int .u64 x.c, .int .u64 x.d], .int .u8 (97 + (i : Int))] W' fun e w' => e = .returned (.bool t1) ∧ Below W'.heap.size W' w') := ⟨fun W' => by rw [← HT1.out]; exact has.calls x _ W' H0.out.1 H0.out.2⟩
      have HAS2 : Aside0 (∀ W', Calls Try.prog 57 #[.agg #[.int .u64 x.a, .int .u64 x.b, .int .u64 x.c, .int .u64 x.d], .int .u8 (97 + (i : Int) - 32)] W' fun e w' => e = .returned (.bool t2) ∧ Below W'.heap.size W' w') := ⟨fun W' => by rw [← HT2.out]; exact has.calls x _ W' H1.out.1 H1.out.2⟩
      have HADD : Aside0 (∀ (z : C4) (b : Int) (W' : World), ClAt W' W.heap.size z → ClAt W' (W.heap.size + 1) C4.nil → Below W.heap.size W W' → W.heap.size + 2 ≤ W'.heap.size → 0 ≤ b ∧ b ≤ 255 → Calls Try.prog 96 #[.pointer (some ⟨W.heap.size, 0, none⟩), .int .u8 b] W' fun e w' => e = .returned (.tuple #[]) ∧ ClAt w' W.heap.size (addC z b) ∧ ClAt w' (W.heap.size + 1) C4.nil ∧ Below W.heap.size W w' ∧ W.heap.size + 2 ≤ w'.heap.size) := ⟨fun z b W' h1 h2 h3 h4 h5 => (add.calls W.heap.size z b W' h1 h5.1 h5.2).mono (by
        rintro e w' ⟨rfl, ha, hm⟩
        exact ⟨rfl, ha, h2.far (hm.block _ (by omega) (by omega)), hm.below h3 (Nat.le_refl _) (by omega), Nat.le_trans h4 hm.size⟩)⟩
      obtain ⟨q, rfl⟩ : ∃ q, gk = q + 1 := ⟨gk - 1, by omega⟩
      have y0 : wr.cell? ⟨W.heap.size, 0, none⟩ = some (.int .u64 x.a) := HC.out.cell 0 (by decide)
      have y1 : wr.cell? ⟨W.heap.size, 1, none⟩ = some (.int .u64 x.b) := HC.out.cell 1 (by decide)
      have y2 : wr.cell? ⟨W.heap.size, 2, none⟩ = some (.int .u64 x.c) := HC.out.cell 2 (by decide)
      have y3 : wr.cell? ⟨W.heap.size, 3, none⟩ = some (.int .u64 x.d) := HC.out.cell 3 (by decide)
      cases t1 with
      | true =>
        go_wp2_with (first
          | (go_at_call 57; (with_reducible refine (HAS1.out _).mono ?_); rintro e w3 ⟨rfl, hb⟩; have HC3 : Aside0 (ClAt w3 W.heap.size x) := ⟨HC.out.far (hb.block _ (Nat.lt_of_lt_of_le (by omega) HS.out))⟩; have HN3 : Aside0 (ClAt w3 (W.heap.size + 1) C4.nil) := ⟨HN.out.far (hb.block _ (Nat.lt_of_lt_of_le (by omega) HS.out))⟩; have HB3 : Aside0 (Below W.heap.size W w3) := ⟨HB.out.trans (hb.mono HB.out.size)⟩; have HS3 : Aside0 (W.heap.size + 2 ≤ w3.heap.size) := ⟨Nat.le_trans HS.out hb.size⟩; have u0 : w3.cell? ⟨W.heap.size, 0, none⟩ = some (.int .u64 x.a) := HC3.out.cell 0 (by decide); have u1 : w3.cell? ⟨W.heap.size, 1, none⟩ = some (.int .u64 x.b) := HC3.out.cell 1 (by decide); have u2 : w3.cell? ⟨W.heap.size, 2, none⟩ = some (.int .u64 x.c) := HC3.out.cell 2 (by decide); have u3 : w3.cell? ⟨W.heap.size, 3, none⟩ = some (.int .u64 x.d) := HC3.out.cell 3 (by decide); clear hb)
          | (go_at_call 96; (with_reducible refine (HADD.out x (97 + (i : Int)) _ HC3.out HN3.out HB3.out HS3.out H0.out).mono ?_); rintro e w5 ⟨rfl, h1, h2, h3, h4⟩; have HC5 := Aside0.mk h1; have HN5 := Aside0.mk h2; have HB5 := Aside0.mk h3; have HS5 := Aside0.mk h4; clear h1 h2 h3 h4)
          | (go_at_call 96; (with_reducible refine (HADD.out _ (97 + (i : Int) - 32) _ HC5.out HN5.out HB5.out HS5.out H1.out).mono ?_); rintro e w6 ⟨rfl, h1, h2, h3, h4⟩; have HC6 := Aside0.mk h1; have HN6 := Aside0.mk h2; have HB6 := Aside0.mk h3; have HS6 := Aside0.mk h4; clear h1 h2 h3 h4))
        go_roundg q
        case measure => omega
        case rel => exact ⟨i + 1, by simp; omega, by omega, ⟨by rw [HX.out]; exact (by simpa using HC6.out)⟩, HN6, HB6, HS6⟩
      | false =>
        cases t2 with
        | true =>
          go_wp2_with (first
            | (go_at_call 57; (with_reducible refine (HAS1.out _).mono ?_); rintro e w3 ⟨rfl, hb⟩; have HC3 : Aside0 (ClAt w3 W.heap.size x) := ⟨HC.out.far (hb.block _ (Nat.lt_of_lt_of_le (by omega) HS.out))⟩; have HN3 : Aside0 (ClAt w3 (W.heap.size + 1) C4.nil) := ⟨HN.out.far (hb.block _ (Nat.lt_of_lt_of_le (by omega) HS.out))⟩; have HB3 : Aside0 (Below W.heap.size W w3) := ⟨HB.out.trans (hb.mono HB.out.size)⟩; have HS3 : Aside0 (W.heap.size + 2 ≤ w3.heap.size) := ⟨Nat.le_trans HS.out hb.size⟩; have u0 : w3.cell? ⟨W.heap.size, 0, none⟩ = some (.int .u64 x.a) := HC3.out.cell 0 (by decide); have u1 : w3.cell? ⟨W.heap.size, 1, none⟩ = some (.int .u64 x.b) := HC3.out.cell 1 (by decide); have u2 : w3.cell? ⟨W.heap.size, 2, none⟩ = some (.int .u64 x.c) := HC3.out.cell 2 (by decide); have u3 : w3.cell? ⟨W.heap.size, 3, none⟩ = some (.int .u64 x.d) := HC3.out.cell 3 (by decide); clear hb)
            | (go_at_call 57; (with_reducible refine (HAS2.out _).mono ?_); rintro e w4 ⟨rfl, hb⟩; have HC4 : Aside0 (ClAt w4 W.heap.size x) := ⟨HC3.out.far (hb.block _ (Nat.lt_of_lt_of_le (by omega) HS3.out))⟩; have HN4 : Aside0 (ClAt w4 (W.heap.size + 1) C4.nil) := ⟨HN3.out.far (hb.block _ (Nat.lt_of_lt_of_le (by omega) HS3.out))⟩; have HB4 : Aside0 (Below W.heap.size W w4) := ⟨HB3.out.trans (hb.mono HB3.out.size)⟩; have HS4 : Aside0 (W.heap.size + 2 ≤ w4.heap.size) := ⟨Nat.le_trans HS3.out hb.size⟩; clear hb)
            | (go_at_call 96; (with_reducible refine (HADD.out x (97 + (i : Int)) _ HC4.out HN4.out HB4.out HS4.out H0.out).mono ?_); rintro e w5 ⟨rfl, h1, h2, h3, h4⟩; have HC5 := Aside0.mk h1; have HN5 := Aside0.mk h2; have HB5 := Aside0.mk h3; have HS5 := Aside0.mk h4; clear h1 h2 h3 h4)
            | (go_at_call 96; (with_reducible refine (HADD.out _ (97 + (i : Int) - 32) _ HC5.out HN5.out HB5.out HS5.out H1.out).mono ?_); rintro e w6 ⟨rfl, h1, h2, h3, h4⟩; have HC6 := Aside0.mk h1; have HN6 := Aside0.mk h2; have HB6 := Aside0.mk h3; have HS6 := Aside0.mk h4; clear h1 h2 h3 h4))
          go_roundg q
          case measure => omega
          case rel => exact ⟨i + 1, by simp; omega, by omega, ⟨by rw [HX.out]; exact (by simpa using HC6.out)⟩, HN6, HB6, HS6⟩
        | false =>
          go_wp2_with (first
            | (go_at_call 57; (with_reducible refine (HAS1.out _).mono ?_); rintro e w3 ⟨rfl, hb⟩; have HC3 : Aside0 (ClAt w3 W.heap.size x) := ⟨HC.out.far (hb.block _ (Nat.lt_of_lt_of_le (by omega) HS.out))⟩; have HN3 : Aside0 (ClAt w3 (W.heap.size + 1) C4.nil) := ⟨HN.out.far (hb.block _ (Nat.lt_of_lt_of_le (by omega) HS.out))⟩; have HB3 : Aside0 (Below W.heap.size W w3) := ⟨HB.out.trans (hb.mono HB.out.size)⟩; have HS3 : Aside0 (W.heap.size + 2 ≤ w3.heap.size) := ⟨Nat.le_trans HS.out hb.size⟩; have u0 : w3.cell? ⟨W.heap.size, 0, none⟩ = some (.int .u64 x.a) := HC3.out.cell 0 (by decide); have u1 : w3.cell? ⟨W.heap.size, 1, none⟩ = some (.int .u64 x.b) := HC3.out.cell 1 (by decide); have u2 : w3.cell? ⟨W.heap.size, 2, none⟩ = some (.int .u64 x.c) := HC3.out.cell 2 (by decide); have u3 : w3.cell? ⟨W.heap.size, 3, none⟩ = some (.int .u64 x.d) := HC3.out.cell 3 (by decide); clear hb)
            | (go_at_call 57; (with_reducible refine (HAS2.out _).mono ?_); rintro e w4 ⟨rfl, hb⟩; have HC4 : Aside0 (ClAt w4 W.heap.size x) := ⟨HC3.out.far (hb.block _ (Nat.lt_of_lt_of_le (by omega) HS3.out))⟩; have HN4 : Aside0 (ClAt w4 (W.heap.size + 1) C4.nil) := ⟨HN3.out.far (hb.block _ (Nat.lt_of_lt_of_le (by omega) HS3.out))⟩; have HB4 : Aside0 (Below W.heap.size W w4) := ⟨HB3.out.trans (hb.mono HB3.out.size)⟩; have HS4 : Aside0 (W.heap.size + 2 ≤ w4.heap.size) := ⟨Nat.le_trans HS3.out hb.size⟩; clear hb))
          go_roundg q
          case measure => omega
          case rel => exact ⟨i + 1, by simp; omega, by omega, ⟨by rw [HX.out]; exact (by simpa using HC4.out)⟩, HN4, HB4, HS4⟩
    · have e1 : ¬ (97 + (i : Int) ≤ 122) := by omega
      have e2 : i = 26 := by omega
      subst e2
      have y0 : wr.cell? ⟨W.heap.size, 0, none⟩ = some (.int .u64 (foldN c 26).a) := HC.out.cell 0 (by decide)
      have y1 : wr.cell? ⟨W.heap.size, 1, none⟩ = some (.int .u64 (foldN c 26).b) := HC.out.cell 1 (by decide)
      have y2 : wr.cell? ⟨W.heap.size, 2, none⟩ = some (.int .u64 (foldN c 26).c) := HC.out.cell 2 (by decide)
      have y3 : wr.cell? ⟨W.heap.size, 3, none⟩ = some (.int .u64 (foldN c 26).d) := HC.out.cell 3 (by decide)
      have z0 : wr.cell? ⟨W.heap.size + 1, 0, none⟩ = some (.int .u64 0) := HN.out.cell 0 (by decide)
      have z1 : wr.cell? ⟨W.heap.size + 1, 1, none⟩ = some (.int .u64 0) := HN.out.cell 1 (by decide)
      have z2 : wr.cell? ⟨W.heap.size + 1, 2, none⟩ = some (.int .u64 0) := HN.out.cell 2 (by decide)
      have z3 : wr.cell? ⟨W.heap.size + 1, 3, none⟩ = some (.int .u64 0) := HN.out.cell 3 (by decide)
      have f0 := HN.out.fz 0
      have f1 := HN.out.fz 1
      have f2 := HN.out.fz 2
      have f3 := HN.out.fz 3
      go_wp2
      (try simp only [Exit.inBlock, Exit.then])
      refine bodyPost_ret (results_cl rfl _ _ rfl (fill4 HN.out (foldN c 26))) rfl ?_
      exact ⟨by rw [HR.out], fill4_below HB.out (Nat.le_succ _) _ _ _ _⟩
end Go.Proofs.Ytclgnefeankbgaa.M
namespace Go.Proofs.Ytclgnefeankbgaa.M
open Go Go.RowKit Go.Proofs.YtclgnefeankbgaaW.PrintWords Go.Proofs.YtclgnefeankbgaaW.PrintLast Go.Proofs.YtclgnefeankbgaaW.PrintMore Hand
attribute [local go_sem] Oper.semAt_some max2_int min2_int max_two min_two max_three min_three max_four min_four
set_option linter.unusedVariables false
set_option linter.unusedSimpArgs false
theorem bt_at {s : ByteArray} {p : Nat} (h : p < s.size) : bt s (p : Int) = ((s[p]'h).toNat : Int) := by unfold bt; simp [h]
/-- A reader at block g: its text, its place. -/
def RS (W : World) (g : Nat) (s : ByteArray) (p : Nat) (fold : Bool) : Prop := W.heap[g]? = some (.cells #[.string s, .int .i64 (p : Int), .bool fold] 105 (0, 0))
theorem RS.move {W W' : World} {g p : Nat} {s : ByteArray} {fold : Bool} (h : RS W g s p fold) (hb : Below W.heap.size W W') : RS W' g s p fold := (hb.block g (blk_lt h)).trans h
theorem RS.set {W : World} {g p : Nat} {s : ByteArray} {fold : Bool} (h : RS W g s p fold) (q : Nat) : RS (W.setCell ⟨g, 1, none⟩ (.int .i64 (q : Int))) g s q fold := (blk_set h 1 _).trans rfl
theorem RS.drew {W : World} {g p : Nat} {s : ByteArray} {fold : Bool} (h : RS W g s p fold) : RS W.drew g s p fold := h
/-- What a place that does not fit leaves. -/
def Bad (n : Nat) (e : Ending) : Prop := e = .panicked [{ v := .iface 106 (.int .i64 (n : Int)), recovered := false }]
set_option maxHeartbeats 4000000 in
theorem fail.calls (v : Value) (n : Nat) (W : World) : Calls Try.prog 52 #[v, .int .i64 (n : Int)] W fun e w' => Bad n e ∧ w' = W := by
  go_enter Try.func52, Try.ntmps52
  go_wp2
  exact ⟨rfl, rfl, rfl⟩
def seeP (s : ByteArray) (p : Nat) : Int := if p < s.size then bt s (p : Int) else 0
set_option maxHeartbeats 4000000 in
theorem see.calls (g p : Nat) (s : ByteArray) (fold : Bool) (W : World) (h : RS W g s p fold) : Calls Try.prog 79 #[.pointer (some ⟨g, 0, none⟩)] W fun e w' => e = .returned (.int .u8 (seeP s p)) ∧ Below W.heap.size W w' := by
  have k0 : W.cell? ⟨g, 0, none⟩ = some (.string s) := (blk_cell h 0).trans rfl
  have k1 : W.cell? ⟨g, 1, none⟩ = some (.int .i64 (p : Int)) := (blk_cell h 1).trans rfl
  clear h
  by_cases c : p < s.size
  · have HE : Aside0 (seeP s p = bt s (p : Int)) := ⟨if_pos c⟩
    have p0 : (0 : Int) ≤ (p : Int) := by omega
    have p1 : (p : Int) < (s.size : Int) := by omega
    go_enter Try.func79, Try.ntmps79
    go_wp2
    go_quiet (fail)
    go_wp2
    go_quiet (fail)
    go_wp2
    go_ret
    exact ⟨by rw [HE.out, bt_at c]; rfl, pw_below_drewN (pw_below_drewN (Below.refl _ _) _) _⟩
  · have HE : Aside0 (seeP s p = 0) := ⟨if_neg c⟩
    go_enter Try.func79, Try.ntmps79
    go_wp2
    go_quiet (fail)
    go_wp2
    go_ret
    exact ⟨by rw [HE.out]; rfl, pw_below_drewN (Below.refl _ _) _⟩
def takeP (s : ByteArray) (p : Nat) (b : Int) : Bool := decide (p < s.size ∧ bt s (p : Int) = b)
set_option maxHeartbeats 4000000 in
theorem take.calls (g p : Nat) (s : ByteArray) (fold : Bool) (b : Int) (W : World) (h : RS W g s p fold) (hs : s.size ≤ 200) :
    Calls Try.prog 66 #[.pointer (some ⟨g, 0, none⟩), .int .u8 b] W fun e w' => e = .returned (.bool (takeP s p b)) ∧ RS w' g s (if takeP s p b = true then p + 1 else p) fold ∧ Mv g W w' := by
  have HS := Aside0.mk h
  have k0 : W.cell? ⟨g, 0, none⟩ = some (.string s) := (blk_cell h 0).trans rfl
  have k1 : W.cell? ⟨g, 1, none⟩ = some (.int .i64 (p : Int)) := (blk_cell h 1).trans rfl
  have f1 := blk_frozen h 1
  clear h
  by_cases c : p < s.size
  · have p0 : (0 : Int) ≤ (p : Int) := by omega
    have p1 : (p : Int) < (s.size : Int) := by omega
    have p2 : ¬ s.size ≤ p := by omega
    have HB := Aside0.mk (bt_at c)
    have w1 : IntKind.i64.wrap ((p : Int) + 1) = (p : Int) + 1 := by rw [IntKind.wrap_i64]; omega
    by_cases d : bt s (p : Int) = b
    · have HE : Aside0 (takeP s p b = true) := ⟨decide_eq_true ⟨c, d⟩⟩
      rw [HE.out, if_pos rfl]
      rw [HB.out] at d
      have e1 : ((s[p].toNat : Int) == b) = true := beq_iff_eq.2 d
      go_enter Try.func66, Try.ntmps66
      go_wp2
      go_quiet (fail)
      go_wp2
      go_ret
      exact ⟨rfl, RS.set (W := W.drewN nq) HS.out (p + 1), ((Mv.refl g W).drewN nq).set _ _⟩
    · have HE : Aside0 (takeP s p b = false) := ⟨decide_eq_false (fun h => d h.2)⟩
      rw [HE.out, if_neg (by simp)]
      rw [HB.out] at d
      have e1 : ((s[p].toNat : Int) == b) = false := beq_eq_false_iff_ne.2 d
      go_enter Try.func66, Try.ntmps66
      go_wp2
      go_quiet (fail)
      go_wp2
      go_ret
      exact ⟨rfl, HS.out, (Mv.refl g W).drewN nq⟩
  · have HE : Aside0 (takeP s p b = false) := ⟨decide_eq_false (fun h => c h.1)⟩
    rw [HE.out, if_neg (by simp)]
    have p2 : s.size ≤ p := by omega
    have p3 : (s.size : Int) ≤ (p : Int) := by omega
    go_enter Try.func66, Try.ntmps66
    go_wp2
    go_quiet (fail)
    go_wp2
    go_ret
    exact ⟨rfl, HS.out, (Mv.refl g W).drewN nq⟩
set_option maxHeartbeats 4000000 in
theorem want.good (g p : Nat) (s : ByteArray) (fold : Bool) (b : Int) (W : World) (h : RS W g s p fold) (hs : s.size ≤ 200) (ht : takeP s p b = true) :
    Calls Try.prog 83 #[.pointer (some ⟨g, 0, none⟩), .int .u8 b] W fun e w' => e = .returned (.tuple #[]) ∧ RS w' g s (p + 1) fold ∧ Mv g W w' := by
  have HT : Aside0 (∀ W', RS W' g s p fold → Calls Try.prog 66 #[.pointer (some ⟨g, 0, none⟩), .int .u8 b] W' fun e w' => e = .returned (.bool true) ∧ RS w' g s (p + 1) fold ∧ Mv g W' w') := ⟨fun W' h => by have := take.calls g p s fold b W' h hs; rw [ht, if_pos rfl] at this; exact this⟩
  have HS := Aside0.mk h
  clear h ht
  go_enter Try.func83, Try.ntmps83
  go_wp2_with (go_at_call 66; (with_reducible refine (HT.out _ HS.out).mono ?_); rintro e w2 ⟨rfl, h1, h2⟩; have HS2 := Aside0.mk h1; have HM2 := Aside0.mk h2; clear h1 h2)
  go_end0
  exact ⟨rfl, HS2.out, HM2.out⟩
set_option maxHeartbeats 4000000 in
theorem want.bad (g p : Nat) (s : ByteArray) (fold : Bool) (b : Int) (W : World) (h : RS W g s p fold) (hs : s.size ≤ 200) (ht : takeP s p b = false) :
    Calls Try.prog 83 #[.pointer (some ⟨g, 0, none⟩), .int .u8 b] W fun e w' => Bad p e ∧ Mv g W w' := by
  have HT : Aside0 (∀ W', RS W' g s p fold → Calls Try.prog 66 #[.pointer (some ⟨g, 0, none⟩), .int .u8 b] W' fun e w' => e = .returned (.bool false) ∧ RS w' g s p fold ∧ Mv g W' w') := ⟨fun W' h => by have := take.calls g p s fold b W' h hs; rw [ht, if_neg (by simp)] at this; exact this⟩
  have HS := Aside0.mk h
  clear h ht
  go_enter Try.func83, Try.ntmps83
  go_wp2_with (first
    | (go_at_call 66; (with_reducible refine (HT.out _ HS.out).mono ?_); rintro e w2 ⟨rfl, h1, h2⟩; have HS2 := Aside0.mk h1; have HM2 := Aside0.mk h2; have k1 : w2.cell? ⟨g, 1, none⟩ = some (.int .i64 (p : Int)) := (blk_cell h1 1).trans rfl; clear h1 h2)
    | (go_at_call 52; (with_reducible refine (fail.calls _ p _).mono ?_); rintro e w3 ⟨he, rfl⟩; unfold Bad at he; subst he))
  exact ⟨rfl, rfl, HM2.out⟩
end Go.Proofs.Ytclgnefeankbgaa.M
namespace Go.Proofs.Ytclgnefeankbgaa.M
open Go Go.RowKit Go.Proofs.YtclgnefeankbgaaW.PrintWords Go.Proofs.YtclgnefeankbgaaW.PrintLast Go.Proofs.YtclgnefeankbgaaW.PrintMore Hand
attribute [local go_sem] Oper.semAt_some max2_int min2_int max_two min_two max_three min_three max_four min_four
set_option linter.unusedVariables false
set_option linter.unusedSimpArgs false
theorem ClAt.mv {W W' : World} {g h : Nat} {c : C4} (hc : ClAt W g c) (hm : Mv h W W') (hne : g ≠ h) : ClAt W' g c := hc.far (hm.block g (blk_lt hc) hne)
theorem ClAt.move {W W' : World} {g : Nat} {c : C4} (hc : ClAt W g c) (hb : Below W.heap.size W W') : ClAt W' g c := hc.far (hb.block g (blk_lt hc))
theorem RS.mv {W W' : World} {g h p : Nat} {s : ByteArray} {fold : Bool} (hc : RS W g s p fold) (hm : Mv h W W') (hne : g ≠ h) : RS W' g s p fold := (hm.block g (blk_lt hc) hne).trans hc
/-- Two blocks may have changed, and no more. -/
structure Mv2 (g h : Nat) (W w' : World) : Prop where
  os : w'.os = W.os
  tape : w'.tape = W.tape
  output : w'.output = W.output
  size : W.heap.size ≤ w'.heap.size
  block : ∀ k, k < W.heap.size → k ≠ g → k ≠ h → w'.heap[k]? = W.heap[k]?
section
variable {P : Program} {ops : Array Oper} {rest : List Oper} {o : Oper} {a : Act} {Q : Exit → Act → World → Prop} {w : World}
theorem gate_load {t : TypeId} {p : Tmp} (_ho : o.op = .load t (.tmp p)) (h : wpList P ops Q (o :: rest) a w) : wpList P ops Q (o :: rest) a w := h
theorem gate_alloc {t : TypeId} {d : Tmp} (_ho : o.op = .alloc t) (_hd : o.dst = some d) (h : wpList P ops Q (o :: rest) a w) : wpList P ops Q (o :: rest) a w := h
theorem run_load_cl {W : World} {g : Nat} {c : C4} (h : ClAt W g c) : (Instr.loadAt 64 (.pointer (some ⟨g, 0, none⟩))).run Try.prog W = .ok (.agg c.cells) W := by
  have hl := load4 (P := Try.prog) h (clAgg W) (clSize W)
  simp [Instr.loadAt, Sem.run_bind, Instr.sureAddr, hl, C4.cells]
theorem load_cl (hg : o.guard = none) (p : Tmp) (hop : o.op = .load 64 (.tmp p)) (g : Nat) (hp : a.eval (.tmp p) = .pointer (some ⟨g, 0, none⟩)) (c : C4) (h : ClAt w g c) (hK : wpList Try.prog ops Q rest (a.put o.dst (.agg c.cells)) w) : wpList Try.prog ops Q (o :: rest) a w := by
  refine wpList_plain hg fun K' hK' => ?_
  unfold Oper.wp
  simp [execOp, hop, hp, run_load_cl h, Result.andThen]
  exact hK' _ _ hK
theorem run_store_cl {W : World} {g : Nat} {z : C4} (c : C4) (h : ClAt W g z) : ∃ w', (Instr.storeAt 64 (.pointer (some ⟨g, 0, none⟩)) (.agg c.cells)).run Try.prog W = .ok () w' ∧ ClAt w' g c ∧ Mv g W w' := by
  refine ⟨_, ?_, fill4 h c, ((((Mv.refl g W).set 0 _).set 1 _).set 2 _).set 3 _⟩
  have z0 : W.cell? ⟨g, 0, none⟩ = some (.int .u64 z.a) := h.cell 0 (by decide)
  have z1 : W.cell? ⟨g, 1, none⟩ = some (.int .u64 z.b) := h.cell 1 (by decide)
  have z2 : W.cell? ⟨g, 2, none⟩ = some (.int .u64 z.c) := h.cell 2 (by decide)
  have z3 : W.cell? ⟨g, 3, none⟩ = some (.int .u64 z.d) := h.cell 3 (by decide)
  have f0 := h.fz 0
  have f1 := h.fz 1
  have f2 := h.fz 2
  have f3 := h.fz 3
  have hs := clSize W
  simp [Instr.storeAt, Sem.run_bind, Instr.sureAddr, storeVar, hs, C4.cells, Value.cells, storeCells, z0, z1, z2, z3, f0, f1, f2, f3, go_sem]
theorem store_cl (hg : o.guard = none) (p : Tmp) (v : Operand) (hop : o.op = .store 64 (.tmp p) v) (g : Nat) (hp : a.eval (.tmp p) = .pointer (some ⟨g, 0, none⟩)) (z c : C4) (hv : a.eval v = .agg c.cells) (h : ClAt w g z) (hK : ∀ w', ClAt w' g c → Mv g w w' → wpList Try.prog ops Q rest (a.put o.dst undef) w') : wpList Try.prog ops Q (o :: rest) a w := by
  refine wpList_plain hg fun K' hK' => ?_
  obtain ⟨w', hr, h1, h2⟩ := run_store_cl c h
  unfold Oper.wp
  simp [execOp, hop, hp, hv, hr, Result.andThen]
  exact hK' _ _ (hK w' h1 h2)
theorem zeroCl (W : World) : (zeroValue 64).run Try.prog W = .ok (.agg C4.nil.cells) W := by kernel_rfl
theorem alloc_cl (hg : o.guard = none) {d : Tmp} (hd : o.dst = some d) (hop : o.op = .alloc 64) (hK : ∀ g w', g = w.heap.size → ClAt w' g C4.nil → Below w.heap.size w w' → wpList Try.prog ops Q rest (a.put o.dst (.pointer (some ⟨g, 0, none⟩))) w') : wpList Try.prog ops Q (o :: rest) a w := by
  refine box_event hg hd (cs := C4.nil.cells) (t := 64) ?_ (fun g hgs w1 hb hbl => hK g w1 hgs hb hbl)
  have hrun : (Instr.alloc 64 true (.tuple #[])).run Try.prog w = .ok (.pointer (some ⟨w.heap.size, 0, none⟩)) (w.alloc (.cells C4.nil.cells 64)) := by kernel_rfl
  simp [execOp, hop, Result.andThen, hrun]
theorem box_cl (hg : o.guard = none) {d : Tmp} (hd : o.dst = some d) (x : Operand) (hop : o.op = .box 64 x) (c : C4) (hx : a.eval x = .agg c.cells) (hK : ∀ g w', g = w.heap.size → ClAt w' g c → Below w.heap.size w w' → wpList Try.prog ops Q rest (a.put o.dst (.pointer (some ⟨g, 0, none⟩))) w') : wpList Try.prog ops Q (o :: rest) a w := by
  refine box_event hg hd (cs := c.cells) (t := 64) ?_ (fun g hgs w1 hb hbl => hK g w1 hgs hb hbl)
  have hrun : (Instr.box 64 (.agg c.cells)).run Try.prog w = .ok (.pointer (some ⟨w.heap.size, 0, none⟩)) (w.alloc (.cells c.cells 64)) := by
    simp [Instr.box, newVar, newRow, Value.cells, go_sem]
  simp [execOp, hop, hx, Result.andThen, hrun]
theorem gate_box {t : TypeId} {x : Operand} {d : Tmp} (_ho : o.op = .box t x) (_hd : o.dst = some d) (h : wpList P ops Q (o :: rest) a w) : wpList P ops Q (o :: rest) a w := h
theorem gate_storeT {t : TypeId} {p : Tmp} {v : Operand} (_ho : o.op = .store t (.tmp p) v) (h : wpList P ops Q (o :: rest) a w) : wpList P ops Q (o :: rest) a w := h
end
end Go.Proofs.Ytclgnefeankbgaa.M
