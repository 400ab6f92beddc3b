/- What the program's reader of a dump makes of a text's lines, and the words for its walk. Conditions: as each lemma says. -/
import Derived.Test.YtlilcbpcjmcfbaaDoorE7
import Derived.Test.YtlilcbpcjmcfbaaDoorDx4
namespace Go.Proofs.YtlilcbpcjmcfbaaDoor.Pure
open Go.RowKit Go.Shelf Go.Proofs.YtlilcbpcjmcfbaaDoor.D Go.Proofs.YtlilcbpcjmcfbaaDoor.Hand Go.Proofs.YtlilcbpcjmcfbaaDoorW.PrintWords Go.Proofs.YtlilcbpcjmcfbaaDoorW.PrintLast Go.Proofs.YtlilcbpcjmcfbaaDoorW.PrintMore
attribute [local go_sem] Oper.semAt_some
set_option linter.unusedVariables false
def rmSp (s : ByteArray) : ByteArray := ⟨(Lib.replaceAll s.data.toList [32] []).toArray⟩
/-- What a line adds. -/
def undStep (o : List Int) (l : ByteArray) : Option (List Int) :=
  if l.size < 54 then none else if (unhexS (rmSp (l.extract 6 54))).2 = 0 ∧ o.length + (unhexS (rmSp (l.extract 6 54))).1.length ≤ 1600 then some (o ++ (unhexS (rmSp (l.extract 6 54))).1) else none
def undF : List Int → List ByteArray → Option (List Int)
  | o, [] => some o
  | o, l :: r => (undStep o l).bind fun o2 => undF o2 r
theorem undF_app : ∀ (a b : List ByteArray) (o : List Int), undF o (a ++ b) = (undF o a).bind fun o2 => undF o2 b
  | [], b, o => rfl
  | l :: a, b, o => by
    show (undStep o l).bind _ = ((undStep o l).bind _).bind _
    cases undStep o l with
    | none => rfl
    | some o2 => exact undF_app a b o2
theorem undF_snoc {a : List ByteArray} {l : ByteArray} {o o2 : List Int} (h : undF o a = some o2) : undF o (a ++ [l]) = undStep o2 l := by
  rw [undF_app, h]
  show (undStep o2 l).bind _ = _
  cases undStep o2 l <;> rfl
theorem undF_stop {a b : List ByteArray} {o : List Int} (h : undF o a = none) : undF o (a ++ b) = none := by
  rw [undF_app, h]; rfl
theorem digV_one (c : Int) (h : ¬ digV c < 0) : 0 ≤ digV c ∧ digV c ≤ 15 := by have := digV_bd c; omega
theorem unhexL_isB (s : ByteArray) : ∀ (d i : Nat) (acc : List Int), isB acc → isB (unhexL s d i acc).1
  | 0, i, acc, h => h
  | d + 1, i, acc, h => by
    unfold unhexL
    split
    · exact isB_nil
    · next h1 =>
      split
      · exact isB_nil
      · next h2 =>
        have a1 := digV_one _ h1
        have a2 := digV_one _ h2
        exact unhexL_isB s d (i + 2) _ (isB_app h (isB_one (by omega) (by omega)))
theorem unhexS_isB (s : ByteArray) : isB (unhexS s).1 := by
  unfold unhexS
  split
  · exact unhexL_isB s _ 0 [] isB_nil
  · exact isB_nil
theorem unhexL_cd (s : ByteArray) : ∀ (d i : Nat) (acc : List Int), (unhexL s d i acc).2 = 0 ∨ (unhexL s d i acc).2 = 2
  | 0, i, acc => .inl rfl
  | d + 1, i, acc => by
    unfold unhexL
    split
    · exact .inr rfl
    · split
      · exact .inr rfl
      · exact unhexL_cd s d (i + 2) _
theorem unhexS_cd (s : ByteArray) : (unhexS s).2 = 0 ∨ (unhexS s).2 = 2 := by
  unfold unhexS
  split
  · exact unhexL_cd s _ 0 []
  · exact .inr rfl
/-- The cells of the program's reader: two for its answers, one for what it has found; and nothing below turned. -/
structure UB (w : World) (N : Nat) (e : Int) (o : List Int) (W : World) : Prop where
  b0 : Boxed W N 22 (.slice none 0 0)
  b1 : Boxed W (N + 1) 24 (.int .i64 e)
  b2 : ∃ v, Boxed W (N + 2) 22 v ∧ W.ownsRow N 5 1 v o.length (o.map (Value.int .u8))
  below : Below N w W
  le : w.heap.size = N
theorem UB.leW {w W : World} {N : Nat} {e : Int} {o : List Int} (h : UB w N e o W) : N ≤ W.heap.size := h.le ▸ h.below.size
theorem UB.kept {w A B : World} {N : Nat} {e : Int} {o : List Int} {row : Option Nat} (h : UB w N e o A) (hg : A.grownBy B row) (hr : ∀ r, row = some r → N ≤ r ∧ ∃ ob : Obj, A.heap[r]? = some ob ∧ ob.isCells = false) : UB w N e o B := by
  have far : ∀ {b : Nat} {t : TypeId} {v : Value}, Boxed A b t v → some b ≠ row := fun {b t v} hb e' => by
    obtain ⟨_, ob, ho, hc⟩ := hr b e'.symm
    rw [show A.heap[b]? = _ from hb] at ho
    cases ho
    cases hc
  obtain ⟨b0, b1, ⟨v, hv, hrow⟩, hbl, hle⟩ := h
  refine ⟨b0.kept hg (far b0), b1.kept hg (far b1), ⟨v, hv.kept hg (far hv), hrow.kept hg ?_⟩, hbl.grown hg (hle ▸ hbl.size) (fun k e => (hr k e).1), hle⟩
  rcases hrow.2 with ⟨rfl, _⟩ | ⟨g, cap, cur, rfl, _, hgb, _⟩
  · exact .inl rfl
  · refine .inr fun e' => ?_
    obtain ⟨_, ob, ho, hc⟩ := hr g (by simpa [Value.ownBlock] using e'.symm)
    rw [hgb] at ho
    cases ho
    cases hc
/-- A step of the world that leaves all that lay. -/
theorem UB.move {w A B : World} {N : Nat} {e : Int} {o : List Int} (h : UB w N e o A) (hb : Below A.heap.size A B) : UB w N e o B := by
  obtain ⟨b0, b1, ⟨v, hv, hrow⟩, hbl, hle⟩ := h
  have far : ∀ {b : Nat} {t : TypeId} {v : Value}, Boxed A b t v → Boxed B b t v := fun h => (hb.block _ h.lt).trans h
  refine ⟨far b0, far b1, ⟨v, far hv, hrow.1, ?_⟩, hbl.trans (hb.mono (hle ▸ hbl.size)), hle⟩
  rcases hrow.2 with h2 | ⟨g, cap, cur, hu, hbg, hg, r⟩
  · exact .inl h2
  · exact .inr ⟨g, cap, cur, hu, hbg, by rw [hb.block g (hrow.lt g (by rw [hu]; rfl)).2]; exact hg, r⟩
theorem UB.other {w A : World} {N b : Nat} {e : Int} {o : List Int} {t : TypeId} {u u' : Value} (h : UB w N e o A) (hb : N + 3 ≤ b) (ht : t ≠ 5) (hu : Boxed A b t u) : UB w N e o (A.setCell ⟨b, 0, none⟩ u') := by
  obtain ⟨b0, b1, ⟨v, hv, hrow⟩, hbl, hle⟩ := h
  exact ⟨b0.other (by omega) u', b1.other (by omega) u', ⟨v, hv.other (by omega) u', hrow.kept (grownBy_setCell' A b u') (.inr (hu.not_row ht hrow).symm)⟩, hbl.setCell (p := ⟨b, 0, none⟩) (by show N ≤ b; omega) _, hle⟩
theorem UB.step {w A B : World} {N : Nat} {e : Int} {o : List Int} (h : UB w N e o A) (hs : LinSt (N + 3) 9 A B) : UB w N e o B := by
  rcases hs with ⟨u, v, hu, rfl⟩ | rfl
  · exact h.other (Nat.le_refl _) (by decide) hu
  · exact ⟨h.b0, h.b1, h.b2, h.below.drew, h.le⟩
/-- An error: both answers are written. -/
theorem UB.bad {w A : World} {N : Nat} {e : Int} {o : List Int} (h : UB w N e o A) : UB w N 2 o ((A.setCell ⟨N, 0, none⟩ (.slice none 0 0)).setCell ⟨N + 1, 0, none⟩ (.int .i64 2)) := by
  obtain ⟨b0, b1, ⟨v, hv, hrow⟩, hbl, hle⟩ := h
  have k0 := (b0.set (.slice none 0 0)).other (B' := N + 1) (by omega) (.int .i64 2)
  have k1 := (b1.other (B' := N) (by omega) (.slice none 0 0)).set (.int .i64 2)
  have k2 := (hv.other (B' := N) (by omega) (.slice none 0 0)).other (B' := N + 1) (by omega) (.int .i64 2)
  have r1 := hrow.kept (grownBy_setCell' A N (.slice none 0 0)) (.inr (b0.not_row (by decide) hrow).symm)
  have q1 := b1.other (B' := N) (by omega) (.slice none 0 0)
  have r2 := r1.kept (grownBy_setCell' _ (N + 1) (.int .i64 2)) (.inr (q1.not_row (by decide) r1).symm)
  exact ⟨k0, k1, ⟨v, k2, r2⟩, (hbl.setCell (p := ⟨N, 0, none⟩) (Nat.le_refl _) _).setCell (p := ⟨N + 1, 0, none⟩) (by show N ≤ N + 1; omega) _, hle⟩
/-- What a round keeps: what is no cells, and the iterator's variable. -/
def UK (N : Nat) (A B : World) : Prop := KeepsOthers A B ∧ LinKp (N + 3) 9 A B
theorem UK.below {N : Nat} {A B : World} (hb : Below A.heap.size A B) : UK N A B :=
  ⟨⟨hb.size, fun k o h _ => (hb.block k (Array.getElem?_eq_some_iff.1 h).1).trans h⟩, fun u hu => (hb.block _ hu.lt).trans hu⟩
theorem UK.trans {N : Nat} {A B C : World} (h : UK N A B) (k : UK N B C) : UK N A C := ⟨h.1.trans k.1, fun u hu => k.2 u (h.2 u hu)⟩
theorem UK.refl (N : Nat) (A : World) : UK N A A := UK.below (Below.refl _ _)
theorem UK.set {N b : Nat} {A : World} (hb : b < N + 3) (u : Value) : UK N A (A.setCell ⟨b, 0, none⟩ u) := ⟨KeepsOthers.setCell _ _ _, fun v hv => hv.other (by omega) u⟩
theorem UK.bad {N : Nat} {A : World} : UK N A ((A.setCell ⟨N, 0, none⟩ (.slice none 0 0)).setCell ⟨N + 1, 0, none⟩ (.int .i64 2)) := (UK.set (by omega) _).trans (UK.set (by omega) _)
/-- Bytes joined to what was found. -/
theorem UB.joined {w A B : World} {N : Nat} {o ys : List Int} {v v' : Value} (h : UB w N 0 o A) (hv : Boxed A (N + 2) 22 v) (hrow : A.ownsRow N 5 1 v o.length (o.map (Value.int .u8))) (hown : B.ownsRow N 5 1 v' (o ++ ys).length ((o ++ ys).map (Value.int .u8))) (hg : A.grownBy B v.ownBlock) :
    Boxed B (N + 2) 22 v ∧ UB w N 0 (o ++ ys) (B.setCell ⟨N + 2, 0, none⟩ v') ∧ UK N A (B.setCell ⟨N + 2, 0, none⟩ v') := by
  have f2 : Boxed B (N + 2) 22 v := hv.kept hg (hv.not_row (by decide) hrow)
  have f0 : Boxed B N 22 (.slice none 0 0) := h.b0.kept hg (h.b0.not_row (by decide) hrow)
  have f1 : Boxed B (N + 1) 24 (.int .i64 0) := h.b1.kept hg (h.b1.not_row (by decide) hrow)
  refine ⟨f2, ⟨f0.other (by omega) v', f1.other (by omega) v', ⟨v', f2.set v', hown.kept (grownBy_setCell' B (N + 2) v') (.inr (f2.not_row (by decide) hown).symm)⟩, ?_, h.le⟩, ?_, ?_⟩
  · exact (h.below.grown hg h.leW (fun k hk => (hrow.lt k hk).1)).setCell (p := ⟨N + 2, 0, none⟩) (by show N ≤ N + 2; omega) _
  · refine (KeepsOthers.of_grownBy hg fun j ob ej hj => ?_).trans (KeepsOthers.setCell _ _ _)
    rcases hrow.2 with ⟨rfl, _⟩ | ⟨g, cap, cur, rfl, _, hgb, _⟩
    · simp [Value.ownBlock] at ej
    · obtain rfl : g = j := by simpa [Value.ownBlock] using ej
      rw [hgb] at hj; cases hj; rfl
  · exact fun u hu => (hu.kept hg (hu.not_row (by decide) hrow)).other (by omega) v'
/-- An append of a slice of bytes, in a round. -/
theorem wpListIn_append_rows {F : Fence} {n : Nat} {P : Program} (w : World) {ops : Array Oper} {rest : List Oper} {o : Oper} {a : Act} {Q : Exit → Act → World → Prop}
    (hg : o.guard = none) (s x : Operand) (t : TypeId) (hop : o.op = Op.call { callee := Callee.builtin Builtin.append, args := #[s, x], argTypes := #[t, t] })
    (base : Nat) (e : TypeId) (i : TypeInfo) (h1 : P.underlying t = some (.slice e)) (h2 : P.info? e = some i) (h3 : i.zero = some (.int .u8 0)) (h4 : i.size = 1) (h5 : i.bytes = 1)
    (v : Value) (xs ys : List Int) (hs : a.eval s = v) (hown : w.ownsRow base e 1 v xs.length (xs.map (Value.int .u8))) (A : Option Addr) (m c : Nat) (hx : a.eval x = .slice A m c) (hC : Kd.C (Kd.int .u8) w A m ys)
    (hl : xs.length + m ≤ 1000000) (b3 : base ≤ w.heap.size)
    (hK : ∀ v' w', w'.ownsRow base e 1 v' (xs ++ ys).length ((xs ++ ys).map (Value.int .u8)) → w.grownBy w' v.ownBlock → wpListIn F n P ops Q rest (a.put o.dst v') w') :
    wpListIn F n P ops Q (o :: rest) a w := by
  have hm : ys.length = m := hC.1
  rcases A with _ | ad
  · have h0 : m = 0 := by
      rcases Nat.eq_zero_or_pos m with h0 | h0
      · exact h0
      · obtain ⟨ad, h, _⟩ := hC.2.2 h0
        cases h
    subst h0
    obtain rfl : ys = [] := List.eq_nil_of_length_eq_zero hm
    refine wpListIn_plain hg fun K hK' => ?_
    have hrun : (Builtin.append_ #[t, t] o.type #[v, .slice none 0 c]).run P w = .ok v w := by
      rcases hown.2 with ⟨rfl, hn⟩ | ⟨g, cap, cur, rfl, _, _, hnc, _⟩
      · simp [Builtin.append_, run_underlying h1, sizeOf, typeInfo, h2, Builtin.lenOf, Builtin.firstCells]
      · simp [Builtin.append_, run_underlying h1, sizeOf, typeInfo, h2, Builtin.lenOf, Builtin.firstCells, hnc, storeCells]
    unfold Oper.wpIn
    refine ⟨?_, ?_⟩
    · simp [Oper.about, hop, resolve, Target.leads, Sem.run_pure]
    · rw [Oper.semAt_plain F _ _ (by rw [hop]; intro c hc'; cases hc')]
      simp [execOp, hop, resolve, invoke, builtin, hs, hx, hrun, Result.andThen]
      exact hK' _ _ (hK v w (by simpa using hown) (World.grownBy.refl w _))
  · have hR := Kd.reads_of_C (enc := Value.int .u8) (d := 0) (h1 := fun _ => rfl) hC
    have hcells : ∀ j u, (ys.map (Value.int .u8))[j]? = some u → w.cell? (ad.add j) = some u := by
      intro j u hu
      have hj : j < ys.length := by
        rcases Nat.lt_or_ge j ys.length with h | h
        · exact h
        · simp [List.getElem?_eq_none h] at hu
      obtain ⟨ad', h', hc⟩ := hR.2.2 (by omega)
      injection h' with h'
      subst h'
      rw [hc j (by omega)]
      rw [List.getElem?_map, List.getElem?_eq_getElem hj] at hu
      rw [List.getD_eq_getElem?_getD, List.getElem?_eq_getElem hj]
      exact hu
    refine wpListIn_append_own w hg s x t hop base e i (.int .u8 0) 1 1 h1 h2 h3 h4 h5 rfl (by decide) v xs.length _ hs hown ad m c (ys.map (Value.int .u8)) hx (by rw [List.length_map]; omega) hcells (fun u hu => by obtain ⟨y, _, rfl⟩ := List.mem_map.1 hu; rfl) (by unfold maxLen; omega) (by omega) b3 ?_
    intro v' w' h6 h7 _
    refine hK v' w' ?_ h7
    rw [List.map_append, List.length_append, hm]
    exact h6
end Go.Proofs.YtlilcbpcjmcfbaaDoor.Pure
