/- '[]byte("..")' of a constant: the row gets a mark behind its last cell, and is only read from then on. Condition: the row is not empty. -/
import Derived.Test.YtbloalfgbpgepaaDoorWMore
import Derived.Lib.SlBytesConst
namespace Go.Proofs.YtbloalfgbpgepaaDoor.Hand
open Go Go.RowKit Go.Proofs.YtbloalfgbpgepaaDoorW.PrintWords
variable {P : Program}

theorem freeze_heap (w : World) (a : Addr) (cur : Array Value) (e : TypeId) (f : Nat × Nat) (h : w.heap[a.block]? = some (.cells cur e f)) :
    ∃ f', (w.freeze a 1).heap[a.block]? = some (.cells cur e f') := by
  unfold World.freeze
  rw [if_neg (by decide)]
  have hlt : a.block < w.heap.size := (Array.getElem?_eq_some_iff.1 h).1
  have hv : w.heap[a.block] = .cells cur e f := (Array.getElem?_eq_some_iff.1 h).2
  show ∃ f', (w.heap.modify a.block _)[a.block]? = _
  rw [Array.getElem?_modify, if_pos rfl, h]
  exact ⟨_, rfl⟩
theorem freeze_grown (w : World) (a : Addr) : w.grownBy (w.freeze a 1) (some a.block) := by
  have hh : ∀ k, k ≠ a.block → (w.freeze a 1).heap[k]? = w.heap[k]? := fun k hk => by
    unfold World.freeze
    rw [if_neg (by decide)]
    show (w.heap.modify a.block _)[k]? = _
    rw [Array.getElem?_modify, if_neg (fun e => hk e.symm)]
  refine ⟨rfl, rfl, rfl, ?_, fun k _ hk => hh k (fun e => hk (by rw [e]))⟩
  unfold World.freeze
  rw [if_neg (by decide)]
  show _ ≤ (w.heap.modify a.block _).size
  simp
theorem run_conv (w : World) (t e : TypeId) (g n c : Nat) (cur : Array Value) (ht : P.underlying t = some (.slice e)) (he : P.underlying e = some (.int .u8)) (h : w.heap[g]? = some (.cells cur e (0, 0))) :
    (convert t t (.slice (some ⟨g, 0, none⟩) n c)).run P w = .ok (.slice (some ⟨g, 0, none⟩) n c) (w.freeze ⟨g, cur.size, none⟩ 1) := by
  have hsh : w.shape? g = some (e, cur.size) := by
    unfold World.shape?
    rw [h]
  simp [convert, run_underlying ht, run_underlying he, markStringish, hsh]

theorem C_cells {k : IntKind} {w w' : World} {g n : Nat} {xs : List Int} (h : (Kd.int k).C w (some ⟨g, 0, none⟩) n xs) (hc : ∀ j, w'.cell? ⟨g, j, none⟩ = w.cell? ⟨g, j, none⟩) : (Kd.int k).C w' (some ⟨g, 0, none⟩) n xs :=
  ⟨h.1, h.2.1, fun hn => by
    obtain ⟨ad, e, hcs⟩ := h.2.2 hn
    cases e
    refine ⟨_, rfl, fun j p hj => ?_⟩
    obtain ⟨c, hs, hr, hcell⟩ := hcs j p hj
    refine ⟨c, hs, hr, fun i u hu => ?_⟩
    have := hcell i u hu
    rw [show (⟨g, 0, none⟩ : Addr).add (j * (Kd.int k).sz + i) = ⟨g, 0 + (j * (Kd.int k).sz + i), none⟩ from by unfold Addr.add; split <;> simp_all] at this ⊢
    rw [hc]
    exact this⟩

theorem conv_const {ops : Array Oper} {rest : List Oper} {o : Oper} {a : Act} {w0 W : World} {Q : Exit → Act → World → Prop} (base : Nat) (hgd : o.guard = none) (s : Operand) (t e : TypeId) (ho : o.op = .convert t t s)
    (ht : P.underlying t = some (.slice e)) (he : P.underlying e = some (.int .u8)) (v : Value) (xs : List Int) (ok : Nat → Prop) (hs : a.eval s = v) (hw : w0.heap.size ≤ base) (hN : 0 < xs.length)
    (hO : (Kd.int .u8).R e W base ok v xs) (_hF : ∀ k, W.heap.size ≤ k → ok k) (hB : Below w0.heap.size w0 W) (_hS : base ≤ W.heap.size) (_hL : True)
    (h : ∀ v' w', Kd.V (Kd.int .u8) e w' base ok v' xs → Below w0.heap.size w0 w' → W.grownBy w' v.ownBlock → (v'.ownBlock = v.ownBlock ∨ ∃ b, v'.ownBlock = some b ∧ W.heap.size ≤ b) → wpList P ops Q rest (a.put o.dst v') w') :
    wpList P ops Q (o :: rest) a W := by
  obtain ⟨A, c, hv⟩ := Kd.R_slice hO
  have hC := Kd.R_reads' (by rw [hv] at hO; exact hO)
  have hown := Kd.own_of_R (h1 := fun _ => rfl) hO
  rcases hown.2 with ⟨hn, hz⟩ | ⟨g, cap, cur, hvg, hbg, hg, hnc, hcm, hcs, htk⟩
  · omega
  · rw [hv] at hvg
    cases hvg
    subst hv
    have hok := hO.1 g rfl
    obtain ⟨f', hf'⟩ := freeze_heap W ⟨g, cur.size, none⟩ cur e _ hg
    have hgr : W.grownBy (W.freeze ⟨g, cur.size, none⟩ 1) (some g) := freeze_grown W ⟨g, cur.size, none⟩
    refine wpList_plain hgd fun K hK => ?_
    unfold Oper.wp execOp
    simp only [ho, hs, Sem.run_bind, run_conv W t e g xs.length c cur ht he hg, Result.andThen_ok]
    refine hK _ _ (h _ _ ?_ ?_ hgr (.inl rfl))
    · refine ⟨_, _, rfl, hnc, fun W' hW => ?_⟩
      have hW' : W'.heap[g]? = some (.cells cur e f') := (hW g hok (Array.getElem?_eq_some_iff.1 hf').1).trans hf'
      refine C_cells hC.2.2 fun j => ?_
      simp [World.cell?, hW', hg]
    · exact ⟨hgr.os.trans hB.os, hgr.tape.trans hB.tape, hgr.output.trans hB.output, Nat.le_trans hB.size hgr.size, fun k hk => (hgr.block k (Nat.lt_of_lt_of_le hk hB.size) (fun e => by cases e; omega)).trans (hB.block k hk)⟩
end Go.Proofs.YtbloalfgbpgepaaDoor.Hand
