/- The builder of strings as a call's own: what WriteString, WriteByte and String do, and what they leave alone. Conditions: as each lemma says. -/
import Derived.Test.YtbdakgkjomanlaaDoorE1
import Derived.BigRegion
import Derived.Lib.Hide
import Derived.Lib.SlBytesConst
import Derived.Lib.AppendStr
import Derived.Lib.Builder
import Derived.Laws.Externs
import Derived.Lib.Strings
import Derived.Lib.Walk
import Derived.Lib.UnsafeStr
import Derived.Shelf.RegionOpenPlain
import Derived.Outline
import Derived.Test.YtbdakgkjomanlaaDoorHRange
import Derived.Test.YtbdakgkjomanlaaDoorWLast
import Derived.Test.YtbdakgkjomanlaaDoorWMore
namespace Go.Proofs.YtbdakgkjomanlaaDoor.Pure
open Go.RowKit Go.Shelf Go.Proofs.YtbdakgkjomanlaaDoor.D Go.Proofs.YtbdakgkjomanlaaDoor.Hand Go.Proofs.YtbdakgkjomanlaaDoorW.PrintWords Go.Proofs.YtbdakgkjomanlaaDoorW.PrintLast Go.Proofs.YtbdakgkjomanlaaDoorW.PrintMore
attribute [local go_sem] Oper.semAt_some max2_int min2_int max_two min_two max_three min_three max_four min_four
set_option linter.unusedVariables false
section
variable {P : Program} {w : World}
/-- Where the row lies behind an append of a string: where it lay, or in a new block. -/
theorem append_str_hat {t u ty e : TypeId} {i : TypeInfo} {base : Nat} (ht : P.underlying t = some (.slice e)) (hu : P.underlying u = some .string) (hi : P.info? e = some i) (hz : i.zero = some (.int .u8 0)) (hsize : i.size = 1) (hby : i.bytes = 1)
    {v : Value} {n : Nat} {xs : List Value} (hown : w.ownsRow base e 1 v n xs) (s : ByteArray) (h63 : n + s.size ≤ maxLen) (hbytes : n + s.size ≤ 140737488355328) (hbase : base ≤ w.heap.size) {v' : Value} {w' : World} (hr : (Builtin.append_ #[t, u] ty #[v, .string s]).run P w = .ok v' w') :
    v'.ownBlock = v.ownBlock ∨ v'.ownBlock = some w.heap.size := by
  have hown2 := hown
  have hsm : n + s.size ≤ 9223372036854775807 := by simpa [maxLen] using h63
  have hxl : xs.length = n := by simpa using hown.1
  rcases hown.2 with ⟨rfl, rfl⟩ | ⟨g, cap, cur, rfl, hbg, hg, hnc, hcm, hcs, htake⟩
  · by_cases hm : s.size = 0
    · obtain ⟨v2, w2, hr2, _, _, hiff⟩ := Lib.run_append_own_string (P := P) w base t u ty e i ht hu hi hz hsize hby _ _ xs hown2 s h63 hbytes hbase
      rw [hr2] at hr
      cases hr
      rw [hiff.2 ⟨rfl, hm⟩]
      exact .inl rfl
    · have h2 := run_append_nil_string (P := P) w t u ty e i (.int .u8 0) ht hu hi hz s (by omega) (by omega) (by rw [hby]; omega)
      rw [h2] at hr
      cases hr
      exact .inr rfl
  · by_cases hroom : n + s.size ≤ cap
    · have h2 := Lib.run_append_room_string (P := P) w t u ty e i ht hu hi hsize g n cap cur hg s hroom (by rw [hcs]; omega)
      rw [h2] at hr
      cases hr
      exact .inl rfl
    · have holds : ∀ j u, xs[j]? = some u → w.cell? ((⟨g, 0, none⟩ : Addr).add j) = some u := hown2.cells (g := g) rfl
      have h2 := Lib.run_append_grow_string (P := P) w t u ty e i (.int .u8 0) ht hu hi hz ⟨g, 0, none⟩ n cap xs (by rw [hsize]; simpa using hxl) holds s (by omega) (by omega) (by rw [hby]; exact growslice_fits (by omega) (by omega))
      rw [h2] at hr
      cases hr
      exact .inr rfl
/-- The same, at the operation. -/
theorem wpList_append_str_hat {ops : Array Oper} {rest : List Oper} {o : Oper} {a : Act} {Q : Exit → Act → World → Prop} (hgd : o.guard = none) (sl x : Operand) (t u : TypeId)
    (ho : o.op = .call { callee := .builtin .append, args := #[sl, x], argTypes := #[t, u] })
    (base : Nat) (e : TypeId) (i : TypeInfo) (ht : P.underlying t = some (.slice e)) (hu : P.underlying u = some .string) (hi : P.info? e = some i) (hz : i.zero = some (.int .u8 0))
    (hsize : i.size = 1) (hby : i.bytes = 1)
    (v : Value) (n : Nat) (xs : List Value) (hs : a.eval sl = v) (hown : w.ownsRow base e 1 v n xs) (s : ByteArray) (hx : a.eval x = .string s)
    (h63 : n + s.size ≤ maxLen) (hbytes : n + s.size ≤ 140737488355328) (hbase : base ≤ w.heap.size)
    (h : ∀ v' w', w'.ownsRow base e 1 v' (n + s.size) (xs ++ Lib.strCells s) → w.grownBy w' v.ownBlock → (v'.ownBlock = v.ownBlock ∨ v'.ownBlock = some w.heap.size) → wpList P ops Q rest (a.put o.dst v') w') : wpList P ops Q (o :: rest) a w := by
  refine wpList_plain hgd fun K hK => ?_
  obtain ⟨v', w', hr, h2, h3, _⟩ := Lib.run_append_own_string (P := P) w base t u o.type e i ht hu hi hz hsize hby v n xs hown s h63 hbytes hbase
  have h4 := append_str_hat ht hu hi hz hsize hby hown s h63 hbytes hbase hr
  unfold Oper.wp execOp
  simp only [ho, resolve, invoke, builtin, Sem.run_bind, Sem.run_pure, Result.andThen_ok, List.map_toArray, List.map_cons, List.map_nil, hs, hx, hr]
  exact hK _ _ (h v' w' h2 h3 h4)
end
/-- A builder of the call's own: the struct's block b, its buffer v, what it holds. -/
structure WB (W : World) (B b : Nat) (v : Value) (bs : List Value) : Prop where
  le : B ≤ b
  blk : W.heap[b]? = some (.cells #[.pointer none, v] 49 (0, 0)) ∨ W.heap[b]? = some (.cells #[.pointer (some ⟨b, 0, none⟩), v] 49 (0, 0))
  own : W.ownsRow B 5 1 v bs.length bs
  ne : v.ownBlock ≠ some b
/-- What a write leaves of the rest. -/
structure WF (W W' : World) (b : Nat) (v v' : Value) : Prop where
  old : ∀ k, k < W.heap.size → k ≠ b → v.ownBlock ≠ some k → W'.heap[k]? = W.heap[k]?
  lies : v'.ownBlock = v.ownBlock ∨ ∃ q, v'.ownBlock = some q ∧ W.heap.size ≤ q
  size : W.heap.size ≤ W'.heap.size
theorem WB.start (W : World) (B : Nat) (hB : B ≤ W.heap.size) : WB (W.alloc (.cells #[.pointer none, .slice none 0 0] 49)) B W.heap.size (.slice none 0 0) [] :=
  ⟨hB, .inl (by show (W.heap.push _)[W.heap.size]? = some _; exact Array.getElem?_push_size), World.ownsRow_nil _ _ _ _, by simp [Value.ownBlock]⟩
theorem WB.lt {W : World} {B b : Nat} {v : Value} {bs : List Value} (h : WB W B b v bs) : b < W.heap.size := by
  rcases h.blk with h | h <;> exact (Array.getElem?_eq_some_iff.1 h).1
theorem WB.ownlt {W : World} {B b : Nat} {v : Value} {bs : List Value} (h : WB W B b v bs) {k : Nat} (hk : v.ownBlock = some k) : k < W.heap.size := (h.own.lt k hk).2
/-- The other builder stays. -/
theorem WB.other {W W' : World} {B b c : Nat} {v v' u : Value} {bs : List Value} (h : WB W B c u bs) (hf : WF W W' b v v') (hcb : c ≠ b) (hvc : v.ownBlock ≠ some c) (hub : u.ownBlock ≠ some b) (huv : ∀ k, u.ownBlock = some k → v.ownBlock ≠ some k) : WB W' B c u bs := by
  have hc : W'.heap[c]? = W.heap[c]? := hf.old c h.lt hcb hvc
  refine ⟨h.le, by rw [hc]; exact h.blk, ?_, h.ne⟩
  obtain ⟨h1, h2⟩ := h.own
  refine ⟨h1, ?_⟩
  rcases h2 with h2 | ⟨g, cap, cur, hu, hbg, hg, r⟩
  · exact .inl h2
  · refine .inr ⟨g, cap, cur, hu, hbg, ?_, r⟩
    have hk : u.ownBlock = some g := by rw [hu]; rfl
    rw [hf.old g (h.ownlt hk) (fun e => hub (by rw [hk, e])) (huv g hk)]
    exact hg
theorem bld_size : (Tryd.prog.info? 49).map (fun i => i.size) = some 2 := by kernel_rfl
theorem byte_info : (Tryd.prog.info? 5).map (fun i => (i.zero, i.size, i.bytes)) = some (some (.int .u8 0), 1, 1) := by kernel_rfl
set_option maxHeartbeats 1000000 in
set_option maxRecDepth 100000 in
theorem ccheck.used (b : Nat) (w : World) (h0 : w.cell? ⟨b, 0, none⟩ = some (.pointer (some ⟨b, 0, none⟩))) :
    Calls Tryd.prog 37 #[.pointer (some ⟨b, 0, none⟩)] w fun e w' => e = .returned (.tuple #[]) ∧ w' = w := by
  obtain ⟨j, hj, _⟩ := Option.map_eq_some_iff.1 bld_size
  go_enter Tryd.func37, Tryd.ntmps37
  go_wp2
  rw [Lib.run_neq_ptr_same w _ Tryd.underlying47 hj]
  go_wp2
  go_end0
  exact ⟨rfl, rfl⟩
set_option maxHeartbeats 1000000 in
set_option maxRecDepth 100000 in
theorem ccheck.fresh (b : Nat) (w : World) (h0 : w.cell? ⟨b, 0, none⟩ = some (.pointer none)) (hsh : w.shape? b = some (49, 2)) (hfz : w.frozen? ⟨b, 0, none⟩ = false) :
    Calls Tryd.prog 37 #[.pointer (some ⟨b, 0, none⟩)] w fun e w' => e = .returned (.tuple #[]) ∧ w' = w.setCell ⟨b, 0, none⟩ (.pointer (some ⟨b, 0, none⟩)) := by
  obtain ⟨j, hj, hjs⟩ := Option.map_eq_some_iff.1 bld_size
  go_enter Tryd.func37, Tryd.ntmps37
  go_wp2
  rw [Lib.run_to_unsafe w ⟨b, 0, none⟩ Tryd.underlying47 Tryd.underlying83 hj (by rw [hjs]; decide) hsh (Nat.zero_lt_succ 1)]
  simp only [Result.andThen]
  rw [Oper.upon_value]
  go_wp2
  rw [run_callFunc_extern Tryd.func52 (by kernel_rfl) (by kernel_rfl) (by kernel_rfl) (e := Extern.AbiNoEscape.same) (by kernel_rfl)]
  rw [Lib.run_noEscape]
  simp only [Result.andThen]
  rw [Oper.upon_value]
  go_wp2
  rw [Lib.run_from_unsafe w ⟨b, 0, none⟩ Tryd.underlying83 Tryd.underlying47 hj hsh (by kernel_rfl)]
  simp only [Result.andThen]
  rw [Oper.upon_value]
  go_wp2
  go_end0
  exact ⟨rfl, rfl⟩
theorem wstr.cell {W : World} {b : Nat} {p v : Value} (h : W.heap[b]? = some (.cells #[p, v] 49 (0, 0))) : W.cell? ⟨b, 1, none⟩ = some v := by rw [Lib.cell_of_heap h]; rfl
theorem wstr.step {w1 w2 : World} {b B m : Nat} {v v' : Value} {cs : List Value} (hbk : w1.heap[b]? = some (.cells #[.pointer (some ⟨b, 0, none⟩), v] 49 (0, 0))) (hne : v.ownBlock ≠ some b) (hgrow : w1.grownBy w2 v.ownBlock) (hown' : w2.ownsRow B 5 1 v' m cs) :
    w2.heap[b]? = some (.cells #[.pointer (some ⟨b, 0, none⟩), v] 49 (0, 0)) ∧ w2.cell? ⟨b, 1, none⟩ = some v ∧ w2.frozen? ⟨b, 1, none⟩ = false ∧ ∃ ao cap, v' = .slice ao m cap := by
  have hb2 : w2.heap[b]? = some (.cells #[.pointer (some ⟨b, 0, none⟩), v] 49 (0, 0)) := by
    rw [hgrow.block b (Array.getElem?_eq_some_iff.1 hbk).1 (fun e => hne e.symm)]
    exact hbk
  refine ⟨hb2, by rw [Lib.cell_of_heap hb2]; rfl, Lib.frozen_of_heap hb2 1, ?_⟩
  rcases hown'.2 with ⟨hv, h0⟩ | ⟨g, cap, cur, hv, _⟩
  · exact ⟨none, 0, by rw [hv, h0]⟩
  · exact ⟨_, _, hv⟩
set_option maxHeartbeats 2000000 in
set_option maxRecDepth 100000 in
/-- WriteString, with a word on what else stays. -/
theorem wstr.calls (B b : Nat) (v : Value) (bs : List Value) (s : ByteArray) (w : World) (h : WB w B b v bs) (hlen : bs.length + s.size ≤ 140737488355328) (hBw : B ≤ w.heap.size) :
    Calls Tryd.prog 22 #[.pointer (some ⟨b, 0, none⟩), .string s] w fun e w' => e = .returned (.tuple #[.int .i64 s.size, .nilIface]) ∧ ∃ v', WB w' B b v' (bs ++ Lib.strCells s) ∧ WF w w' b v v' ∧ Below B w w' := by
  obtain ⟨vo, vc, rfl⟩ : ∃ vo vc, v = .slice vo bs.length vc := by
    rcases h.own.2 with ⟨hv, h0⟩ | ⟨g, cap, cur, hv, _⟩
    · exact ⟨none, 0, by rw [hv, h0]⟩
    · exact ⟨_, _, hv⟩
  have hcc : Calls Tryd.prog 37 #[.pointer (some ⟨b, 0, none⟩)] w fun e w1 => e = .returned (.tuple #[]) ∧ w1.heap[b]? = some (.cells #[.pointer (some ⟨b, 0, none⟩), (.slice vo bs.length vc)] 49 (0, 0)) ∧ (∀ k, k ≠ b → w1.heap[k]? = w.heap[k]?) ∧ w1.heap.size = w.heap.size ∧ Below B w w1 := by
    rcases h.blk with hb | hb
    · refine (ccheck.fresh b w (by rw [Lib.cell_of_heap hb]; rfl) (by simp [World.shape?, hb]) (Lib.frozen_of_heap hb 0)).mono ?_
      rintro e w' ⟨rfl, rfl⟩
      refine ⟨rfl, ?_, fun k hk => Below.heap_setCell _ _ _ _ hk, by simp [World.setCell], (Below.refl B w).setCell (p := ⟨b, 0, none⟩) h.le _⟩
      simp [World.setCell, Array.getElem?_modify, hb]
    · refine (ccheck.used b w (by rw [Lib.cell_of_heap hb]; rfl)).mono ?_
      rintro e w' ⟨rfl, rfl⟩
      exact ⟨rfl, hb, fun _ _ => rfl, rfl, Below.refl B _⟩
  have hownT : ∀ w1 : World, (∀ k, k ≠ b → w1.heap[k]? = w.heap[k]?) → w1.ownsRow B 5 1 (.slice vo bs.length vc) bs.length bs := fun w1 hold => by
    obtain ⟨h1, h2⟩ := h.own
    refine ⟨h1, ?_⟩
    rcases h2 with h2 | ⟨g, cap, cur, hu, hbg, hg, r⟩
    · exact .inl h2
    · refine .inr ⟨g, cap, cur, hu, hbg, ?_, r⟩
      rw [hold g (fun e => h.ne (by rw [hu, ← e]; rfl))]
      exact hg
  have HT := Aside0.mk hownT
  have HH := Aside0.mk h
  have HCC := Aside0.mk hcc
  clear hownT h hcc
  obtain ⟨i0, hi, hz0, hz1, hz2⟩ := info_parts byte_info
  have HI := Aside0.mk (And.intro hi (And.intro hz0 (And.intro hz1 hz2)))
  have HNE := Aside0.mk HH.out.ne
  have HL3 : Aside0 (bs.length + s.size ≤ maxLen) := ⟨by unfold maxLen; omega⟩
  have HL4 := Aside0.mk hlen
  have HBW := Aside0.mk hBw
  clear hi hz0 hz1 hz2 hlen hBw
  go_enter Tryd.func22, Tryd.ntmps22
  go_wp2_with (first
    | (go_at_call 37; (with_reducible refine HCC.out.mono ?_); rintro e w1 ⟨rfl, hbk, hold, hsz, hb1⟩; have c1 : w1.cell? ⟨b, 1, none⟩ = some (.slice vo bs.length vc) := wstr.cell hbk; have HBK := Aside0.mk hbk; have HOLD := Aside0.mk hold; have HB1 := Aside0.mk hb1; have HSZ := Aside0.mk hsz; have HL5 : Aside0 (B ≤ w1.heap.size) := ⟨hsz.symm ▸ HBW.out⟩; clear hbk hold hb1 hsz)
    | (at_builtin; refine wpList_append_str_hat rfl _ _ 27 9 rfl B 5 i0 Tryd.underlying27 Tryd.underlying9 HI.out.1 HI.out.2.1 HI.out.2.2.1 HI.out.2.2.2 _ _ _ rfl (HT.out w1 HOLD.out) s rfl HL3.out HL4.out HL5.out ?_; intro v' w2 hown' hgrow hat; obtain ⟨hb2, d1, f1, ao, cap, e'⟩ := wstr.step HBK.out HNE.out hgrow hown'; subst e'; have HO2 := Aside0.mk hown'; have HG := Aside0.mk hgrow; have HAT := Aside0.mk hat; have HB2 := Aside0.mk hb2; clear hown' hgrow hat hb2))
  have HLT : Aside0 (b < w1.heap.size) := ⟨(Array.getElem?_eq_some_iff.1 HBK.out).1⟩
  go_ret2
  have hne' : (Value.slice ao (bs.length + s.size) cap).ownBlock ≠ some b := fun e => by
    rcases HAT.out with h2 | h2
    · exact HH.out.ne (h2 ▸ e)
    · rw [h2] at e
      injection e with e
      have := HLT.out
      omega
  have hblk := blk_set HB2.out 1 (.slice ao (bs.length + s.size) cap)
  refine ⟨rfl, .slice ao (bs.length + s.size) cap, ⟨HH.out.le, .inr hblk, ?_, hne'⟩, ⟨?_, ?_, ?_⟩, ?_⟩
  · obtain ⟨h1, h2⟩ := HO2.out
    rw [List.length_append, Lib.strCells_length]
    refine ⟨h1, ?_⟩
    rcases h2 with h2 | ⟨g, cp, cur, hu, hbg, hg, r⟩
    · exact .inl h2
    · refine .inr ⟨g, cp, cur, hu, hbg, ?_, r⟩
      rw [Below.heap_setCell _ _ _ _ (fun e => hne' (by rw [hu, show b = g from e.symm]; rfl))]
      exact hg
  · intro k hk hkb hvk
    rw [Below.heap_setCell _ _ _ _ (fun e => hkb e), HG.out.block k (by rw [HSZ.out]; exact hk) (fun e => hvk e.symm), HOLD.out k hkb]
  · rcases HAT.out with h2 | h2
    · exact .inl h2
    · exact .inr ⟨_, h2, HSZ.out ▸ Nat.le_refl _⟩
  · have := HG.out.size
    have := HSZ.out
    simp [World.setCell]
    omega
  · exact (HB1.out.grown HG.out HL5.out (fun k hk => (HH.out.own.lt k hk).1)).setCell (p := ⟨b, 1, none⟩) HH.out.le _
set_option maxHeartbeats 2000000 in
set_option maxRecDepth 100000 in
/-- WriteByte, with a word on what else stays. -/
theorem wbyte.calls (B b : Nat) (v : Value) (xs : List Int) (c : Int) (w : World) (h : WB w B b v (xs.map (Value.int .u8))) (hlen : xs.length + 1 ≤ 1000000) (hBw : B ≤ w.heap.size) :
    Calls Tryd.prog 47 #[.pointer (some ⟨b, 0, none⟩), .int .u8 c] w fun e w' => e = .returned .nilIface ∧ ∃ v', WB w' B b v' ((xs ++ [c]).map (Value.int .u8)) ∧ WF w w' b v v' ∧ Below B w w' := by
  have hr0 : Kd.R (Kd.int .u8) 5 w B (fun k => k ≠ b) v xs := Kd.R_of_own (h1 := fun _ => rfl) (ok := fun k => k ≠ b) (by have h2 := h.own; rw [List.length_map] at h2; exact h2) (fun k hk e => h.ne (by rw [hk, e]))
  obtain ⟨vo, vc, rfl⟩ := Kd.R_slice hr0
  have hcc : Calls Tryd.prog 37 #[.pointer (some ⟨b, 0, none⟩)] w fun e w1 => e = .returned (.tuple #[]) ∧ w1.heap[b]? = some (.cells #[.pointer (some ⟨b, 0, none⟩), .slice vo xs.length vc] 49 (0, 0)) ∧ (∀ k, k ≠ b → w1.heap[k]? = w.heap[k]?) ∧ w1.heap.size = w.heap.size ∧ Below B w w1 := by
    rcases h.blk with hb | hb
    · refine (ccheck.fresh b w (by rw [Lib.cell_of_heap hb]; rfl) (by simp [World.shape?, hb]) (Lib.frozen_of_heap hb 0)).mono ?_
      rintro e w' ⟨rfl, rfl⟩
      refine ⟨rfl, ?_, fun k hk => Below.heap_setCell _ _ _ _ hk, by simp [World.setCell], (Below.refl B w).setCell (p := ⟨b, 0, none⟩) h.le _⟩
      simp [World.setCell, Array.getElem?_modify, hb]
    · refine (ccheck.used b w (by rw [Lib.cell_of_heap hb]; rfl)).mono ?_
      rintro e w' ⟨rfl, rfl⟩
      exact ⟨rfl, hb, fun _ _ => rfl, rfl, Below.refl B _⟩
  have hownT : ∀ w1 : World, (∀ k, k ≠ b → w1.heap[k]? = w.heap[k]?) → Kd.R (Kd.int .u8) 5 w1 B (fun _ => True) (.slice vo xs.length vc) xs := fun w1 hold => Kd.R_mono (Kd.R_move hr0 (fun k hk => hold k hk)) (fun _ _ => trivial)
  have HT := Aside0.mk hownT
  have HH := Aside0.mk h
  have HCC := Aside0.mk hcc
  have HLN := Aside0.mk hlen
  have HBW := Aside0.mk hBw
  have HNE := Aside0.mk HH.out.ne
  clear hownT h hcc hr0 hlen hBw
  go_enter Tryd.func47, Tryd.ntmps47
  go_wp2_with (first
    | (go_at_call 37; (with_reducible refine HCC.out.mono ?_); rintro e w1 ⟨rfl, hbk, hold, hsz, hb1⟩; have c1 : w1.cell? ⟨b, 1, none⟩ = some (.slice vo xs.length vc) := wstr.cell hbk; have HBK := Aside0.mk hbk; have HOLD := Aside0.mk hold; have HB1 := Aside0.mk hb1; have HSZ := Aside0.mk hsz; have HL5 : Aside0 (B ≤ w1.heap.size) := ⟨hsz.symm ▸ HBW.out⟩; clear hbk hold hb1 hsz)
    | ((with_reducible refine gate_builtin (b := .append) (xs := #[.tmp 11, .tmp 13]) rfl ?_); at_builtin; go_loud (refine Kd.R_append (Kd.int .u8) (w0 := w1) B rfl (.tmp 11) (.tmp 13) 27 5 (.int .u8 0) 1 rfl Tryd.underlying27 info5 rfl (by decide) (by omega) (.slice vo xs.length vc) xs c [.int .u8 c] (fun _ => True) (fun _ => False) rfl rfl rfl (fun _ hk => hk.elim) (fun _ _ => trivial) (HT.out w1 HOLD.out) (Below.refl w1.heap.size w1 |>.mono HL5.out) ?aS ?aL ?_); (case aS => exact HL5.out); (case aL => have := HLN.out; omega); intro v' w2 ho hb hg hat; obtain ⟨hb2, d1, f1, ao, cap, e'⟩ := wstr.step HBK.out HNE.out hg (Kd.own_of_R (enc := Value.int .u8) (h1 := fun _ => rfl) ho); rw [List.length_append, List.length_singleton] at e'; subst e'; have HO2 := Aside0.mk ho; have HG : Aside0 (w1.grownBy w2 (Value.slice vo xs.length vc).ownBlock) := ⟨hg⟩; have HAT := Aside0.mk hat; have HB2 := Aside0.mk hb2; have HBE := Aside0.mk hb; clear ho hb hg hat hb2))
  have HLT : Aside0 (b < w1.heap.size) := ⟨(Array.getElem?_eq_some_iff.1 HBK.out).1⟩
  go_ret
  have hne' : (Value.slice ao (xs.length + 1) cap).ownBlock ≠ some b := fun e => by
    rcases HAT.out with h2 | ⟨q, h2, hq⟩
    · exact HH.out.ne (h2 ▸ e)
    · have e2 := h2.symm.trans e
      injection e2 with e2
      have := HLT.out
      omega
  have hblk := blk_set HB2.out 1 (.slice ao (xs.length + 1) cap)
  have hown2 := Kd.own_of_R (enc := Value.int .u8) (h1 := fun _ => rfl) HO2.out
  refine ⟨rfl, .slice ao (xs.length + 1) cap, ⟨HH.out.le, .inr hblk, ?_, hne'⟩, ⟨?_, ?_, ?_⟩, ?_⟩
  · rw [List.length_map, List.length_append, List.length_singleton]
    rw [List.length_append, List.length_singleton] at hown2
    obtain ⟨h1, h2⟩ := hown2
    refine ⟨h1, ?_⟩
    rcases h2 with h2 | ⟨g, cp, cur, hu, hbg, hg, r⟩
    · exact .inl h2
    · refine .inr ⟨g, cp, cur, hu, hbg, ?_, r⟩
      rw [Below.heap_setCell _ _ _ _ (fun e => hne' (by rw [hu, show b = g from e.symm]; rfl))]
      exact hg
  · intro k hk hkb hvk
    rw [Below.heap_setCell _ _ _ _ (fun e => hkb e), HG.out.block k (by rw [HSZ.out]; exact hk) (fun e => hvk e.symm), HOLD.out k hkb]
  · rcases HAT.out with h2 | ⟨q, h2, hq⟩
    · exact .inl h2
    · exact .inr ⟨q, h2, HSZ.out ▸ hq⟩
  · have := HG.out.size
    have := HSZ.out
    simp [World.setCell]
    omega
  · exact (HB1.out.grown HG.out HL5.out (fun k hk => (HH.out.own.lt k hk).1)).setCell (p := ⟨b, 1, none⟩) HH.out.le _
theorem freeze_block (w : World) (p : Addr) (n : Nat) {k : Nat} (h : k ≠ p.block) : (w.freeze p n).heap[k]? = w.heap[k]? := by
  unfold World.freeze
  split
  · rfl
  · simp only [Array.getElem?_modify]
    rw [if_neg (fun e => h e.symm)]
theorem freeze_size (w : World) (p : Addr) (n : Nat) : (w.freeze p n).heap.size = w.heap.size := by
  unfold World.freeze
  split
  · rfl
  · simp
set_option maxHeartbeats 2000000 in
set_option maxRecDepth 100000 in
/-- String, of a builder that holds something: with a word on what else stays. -/
theorem bstr.calls (B b : Nat) (v : Value) (l : List UInt8) (w : World) (h : WB w B b v (Lib.byteCells l)) (h0 : l ≠ []) :
    Calls Tryd.prog 24 #[.pointer (some ⟨b, 0, none⟩)] w fun e w' => e = .returned (.string ⟨l.toArray⟩) ∧ (∀ k, v.ownBlock ≠ some k → w'.heap[k]? = w.heap[k]?) ∧ w'.heap.size = w.heap.size ∧ Below B w w' := by
  obtain ⟨p, hbk⟩ : ∃ p, w.heap[b]? = some (.cells #[p, v] 49 (0, 0)) := by
    rcases h.blk with h | h
    · exact ⟨_, h⟩
    · exact ⟨_, h⟩
  have hown := h.own
  have hl0 : l.length ≠ 0 := by simpa using h0
  rw [Lib.byteCells_length] at hown
  obtain ⟨g, cap, cur, rfl, hbg, hg, hnc, hcm, hcs, htake⟩ : ∃ g cap cur, v = .slice (some ⟨g, 0, none⟩) l.length cap ∧ B ≤ g ∧ w.heap[g]? = some (.cells cur 5 (0, 0)) ∧ l.length ≤ cap ∧ cap ≤ maxLen ∧ cur.size = cap * 1 ∧ cur.toList.take (l.length * 1) = Lib.byteCells l := by
    rcases hown.2 with ⟨_, hz⟩ | ⟨g, cap, cur, hv, r⟩
    · exact absurd hz hl0
    · exact ⟨g, cap, cur, hv, r⟩
  have c1 : w.drew.cell? ⟨b, 1, none⟩ = some (.slice (some ⟨g, 0, none⟩) l.length cap) := by
    have h2 : w.drew.heap[b]? = some (.cells #[p, .slice (some ⟨g, 0, none⟩) l.length cap] 49 (0, 0)) := hbk
    rw [Lib.cell_of_heap h2]; rfl
  have hSD : (Builtin.unsafeSliceData_ #[27] 66 #[.slice (some ⟨g, 0, none⟩) l.length cap]).run Tryd.prog w.drew = .ok (.pointer (some ⟨g, 0, none⟩)) w.drew :=
    Lib.run_unsafeSliceData_row _ _ _ _ _ _ (by omega)
  have hUS : (Builtin.unsafeString_ #[66, 3] 9 #[.pointer (some ⟨g, 0, none⟩), .int .i64 l.length]).run Tryd.prog w.drew = .ok (.string ⟨l.toArray⟩) (w.drew.freeze ⟨g, 0, none⟩ l.length) := by
    refine Lib.run_unsafeString_row w.drew 66 3 9 5 Tryd.underlying66 (by kernel_rfl) g cur.size (by have hg' : w.drew.heap[g]? = some (.cells cur 5 (0, 0)) := hg; simp [World.shape?, hg']) l h0 (by omega) (by unfold maxLen at hcm; omega) ?_
    intro j x hx
    exact hown.cells (g := g) rfl j (.int .u8 x.toNat) (by simp [Lib.byteCells, hx])
  have HF : Aside0 ((∀ k, (Value.slice (some ⟨g, 0, none⟩) l.length cap).ownBlock ≠ some k → (w.drew.freeze ⟨g, 0, none⟩ l.length).heap[k]? = w.heap[k]?) ∧ (w.drew.freeze ⟨g, 0, none⟩ l.length).heap.size = w.heap.size ∧ Below B w (w.drew.freeze ⟨g, 0, none⟩ l.length)) := ⟨fun k hk => freeze_block w.drew _ _ (fun e => hk (by rw [e]; rfl)), freeze_size w.drew _ _, Lib.below_freeze (Below.drew (Below.refl B w)) (p := ⟨g, 0, none⟩) hbg _⟩
  clear hown hbk hg hnc hcm hcs htake h
  have mixed : Tryd.prog.follows Departure.mixedOrders = true := by kernel_rfl
  go_enter Tryd.func24, Tryd.ntmps24
  go_wp2
  go_region_o
  all_goals (go_wp2; go_ret; exact ⟨rfl, HF.out⟩)
set_option maxHeartbeats 2000000 in
set_option maxRecDepth 100000 in
/-- String, of a builder into which nothing was written. -/
theorem bstr.emp (B b : Nat) (w : World) (h : WB w B b (.slice none 0 0) []) :
    Calls Tryd.prog 24 #[.pointer (some ⟨b, 0, none⟩)] w fun e w' => e = .returned (.string ⟨#[]⟩) ∧ Below B w w' := by
  obtain ⟨p, hbk⟩ : ∃ p, w.heap[b]? = some (.cells #[p, .slice none 0 0] 49 (0, 0)) := by
    rcases h.blk with h | h
    · exact ⟨_, h⟩
    · exact ⟨_, h⟩
  have c1 : w.drew.cell? ⟨b, 1, none⟩ = some (.slice none 0 0) := by
    have h2 : w.drew.heap[b]? = some (.cells #[p, .slice none 0 0] 49 (0, 0)) := hbk
    rw [Lib.cell_of_heap h2]; rfl
  have hSD : (Builtin.unsafeSliceData_ #[27] 66 #[.slice none 0 0]).run Tryd.prog w.drew = .ok (.pointer none) w.drew := rfl
  have hUS : ∀ (W : World) (q : Option Addr), (Builtin.unsafeString_ #[66, 3] 9 #[.pointer q, .int .i64 0]).run Tryd.prog W = .ok (.string .empty) W := fun W q => Lib.run_unsafeString_none W _ _ _ q
  have HF : Aside0 (Below B w w.drew) := ⟨Below.drew (Below.refl B w)⟩
  clear hbk h
  have mixed : Tryd.prog.follows Departure.mixedOrders = true := by kernel_rfl
  go_enter Tryd.func24, Tryd.ntmps24
  go_wp2
  go_region_o
  all_goals (go_wp2; go_ret; exact ⟨rfl, HF.out⟩)
/-- A list of numbers that are bytes, as cells: what a string of them bears. -/
theorem cells_sn {l : List Int} (h : isB l) : Lib.strCells (strOfNums l) = l.map (Value.int .u8) := by
  unfold Lib.strCells
  rw [strOfNums_data, List.map_map]
  refine List.map_congr_left fun x hx => ?_
  have := h x hx
  simp only [Function.comp]
  congr 1
  rw [UInt8.toNat_ofNat', Nat.mod_eq_of_lt (by omega)]
  omega
theorem cells_bn {l : List Int} (h : isB l) : Lib.byteCells (l.map fun n : Int => UInt8.ofNat n.toNat) = l.map (Value.int .u8) := cells_sn h
/-- WriteString, of a string of numbers. -/
theorem wstrN.calls (B b : Nat) (v : Value) (xs ys : List Int) (w : World) (h : WB w B b v (xs.map (Value.int .u8))) (hy : isB ys) (hlen : xs.length + ys.length ≤ 1000000) (hBw : B ≤ w.heap.size) :
    Calls Tryd.prog 22 #[.pointer (some ⟨b, 0, none⟩), .string (strOfNums ys)] w fun e w' => ∃ n, e = .returned (.tuple #[.int .i64 n, .nilIface]) ∧ ∃ v', WB w' B b v' ((xs ++ ys).map (Value.int .u8)) ∧ WF w w' b v v' ∧ Below B w w' := by
  refine (wstr.calls B b v _ (strOfNums ys) w h (by rw [List.length_map, strOfNums_size]; omega) hBw).mono ?_
  rintro e w' ⟨rfl, v', h1, h2, h3⟩
  refine ⟨_, rfl, v', ?_, h2, h3⟩
  rw [cells_sn hy] at h1
  rw [List.map_append]
  exact h1
/-- String, of a builder that holds numbers. -/
theorem bstrN.calls (B b : Nat) (v : Value) (xs : List Int) (w : World) (h : WB w B b v (xs.map (Value.int .u8))) (hx : isB xs) (h0 : xs ≠ []) :
    Calls Tryd.prog 24 #[.pointer (some ⟨b, 0, none⟩)] w fun e w' => e = .returned (.string (strOfNums xs)) ∧ (∀ k, v.ownBlock ≠ some k → w'.heap[k]? = w.heap[k]?) ∧ w'.heap.size = w.heap.size ∧ Below B w w' :=
  bstr.calls B b v (xs.map fun n : Int => UInt8.ofNat n.toNat) w (by rw [cells_bn hx]; exact h) (by simpa using h0)
end Go.Proofs.YtbdakgkjomanlaaDoor.Pure
