/- The calls' state: the maps of moves, and a call's step. Conditions: as each theorem says. -/
import Derived.Test.YtbloalfgbpgepaaDoorCx0
import Derived.Test.YtbloalfgbpgepaaDoorCx3
import Derived.Test.YtbloalfgbpgepaaDoorShelf
import Derived.Maps.Own
import Derived.Deep.RegionHeld3
namespace Go.Proofs.YtbloalfgbpgepaaDoor.T
open Go Go.RowKit Go.Shelf Go.Proofs.YtbloalfgbpgepaaDoor.C Go.Proofs.YtbloalfgbpgepaaDoorW.PrintWords Go.Proofs.YtbloalfgbpgepaaDoorW.PrintLast Go.Proofs.YtbloalfgbpgepaaDoorW.PrintMore Hand
attribute [local go_sem] Oper.semAt_some max2_int min2_int max_two min_two max_three min_three max_four min_four
set_option linter.unusedVariables false
def plainKey : TypeDesc → Bool
  | .int _ => true
  | .string => true
  | _ => false
theorem check_plain {P : Program} {kt : TypeId} {kd : TypeDesc} (hk : P.underlying kt = some kd) (hp : plainKey kd = true) (e : Bool) (key : Value) (W : World) : (Instr.checkKey e 10000 kt key).run P W = .ok () W := by
  show (Instr.checkKey e (9999 + 1) kt key).run P W = _
  rw [Instr.checkKey]
  cases kd <;> simp [plainKey] at hp <;> cases key <;> simp [Sem.run_bind, run_underlying hk]
theorem run_put_new {P : Program} {W : World} {r : Nat} {es : Array MapEntry} {cl : Nat} {t kt et : TypeId} {kd : TypeDesc} {key val : Value} (ht : P.underlying t = some (.map kt et)) (hk : P.underlying kt = some kd) (hp : plainKey kd = true) (hb : W.heap[r]? = some (.map es cl)) (hf : Instr.findNow kd key es.toList 0 = some none) :
    (Instr.mapUpdate t (.map (some r)) key val).run P W = .ok () { W with heap := W.heap.setIfInBounds r (.map (es.push { key, val, born := cl }) (cl + 1)) } := by
  have hlt := (Array.getElem?_eq_some_iff.1 hb).1
  unfold Instr.mapUpdate
  simp [Sem.run_bind, run_underlying ht, run_underlying hk, check_plain hk hp, Instr.findKey, hf, MapKept.run_getObj_map hb, MapKept.run_setObj_map _ hb]
theorem run_look {P : Program} {W : World} {r : Nat} {es : Array MapEntry} {cl : Nat} {t kt et : TypeId} {kd : TypeDesc} {key val : Value} {j : Nat} (ok : Bool) (ht : P.underlying t = some (.map kt et)) (hk : P.underlying kt = some kd) (hp : plainKey kd = true) (hb : W.heap[r]? = some (.map es cl)) (hf : Instr.findNow kd key es.toList 0 = some (some (j, val))) :
    (Instr.lookup t (.map (some r)) key ok).run P W = .ok (if ok then .tuple #[val, .bool true] else val) W := by
  unfold Instr.lookup
  cases ok <;> simp [Sem.run_bind, run_underlying ht, run_underlying hk, check_plain hk hp, Instr.findKey, hf, MapKept.run_getObj_map hb]
theorem run_look_none {P : Program} {W : World} {r : Nat} {es : Array MapEntry} {cl : Nat} {t kt et : TypeId} {kd : TypeDesc} {key z : Value} (ok : Bool) (ht : P.underlying t = some (.map kt et)) (hk : P.underlying kt = some kd) (hp : plainKey kd = true) (hb : W.heap[r]? = some (.map es cl)) (hf : Instr.findNow kd key es.toList 0 = some none) (hz : (zeroValue et).run P W = .ok z W) :
    (Instr.lookup t (.map (some r)) key ok).run P W = .ok (if ok then .tuple #[z, .bool false] else z) W := by
  unfold Instr.lookup
  cases ok <;> simp [Sem.run_bind, run_underlying ht, run_underlying hk, check_plain hk hp, Instr.findKey, hf, MapKept.run_getObj_map hb, hz]
theorem run_look_nil {P : Program} {W : World} {t kt et : TypeId} {kd : TypeDesc} {key z : Value} (ok : Bool) (ht : P.underlying t = some (.map kt et)) (hk : P.underlying kt = some kd) (hp : plainKey kd = true) (hz : (zeroValue et).run P W = .ok z W) :
    (Instr.lookup t (.map none) key ok).run P W = .ok (if ok then .tuple #[z, .bool false] else z) W := by
  unfold Instr.lookup
  cases ok <;> simp [Sem.run_bind, run_underlying ht, run_underlying hk, check_plain hk hp, Instr.findKey, Instr.findNow, hz]
theorem gate_mk {P : Program} {ops : Array Oper} {rest : List Oper} {o : Oper} {a : Act} {Q : Exit → Act → World → Prop} {W : World} {t : TypeId} {d : Tmp} (_ho : o.op = .makeMap t none) (_hd : o.dst = some d) (h : wpList P ops Q (o :: rest) a W) : wpList P ops Q (o :: rest) a W := h
theorem wpList_mk {P : Program} (w : World) {ops : Array Oper} {rest : List Oper} {o : Oper} {a : Act} {Q : Exit → Act → World → Prop} (hg : o.guard = none) (t : TypeId) (hop : o.op = Op.makeMap t none) (r : Nat) (hr : w.heap.size = r)
    (hK : wpList P ops Q rest (a.put o.dst (.map (some r))) (w.alloc (.map #[] 0))) : wpList P ops Q (o :: rest) a w := by
  refine wpList_plain hg fun K' hK' => ?_
  unfold Oper.wp
  simp [execOp, hop, run_makeMap, Result.andThen, hr]
  exact hK' _ _ hK
theorem gate_ins {P : Program} {ops : Array Oper} {rest : List Oper} {o : Oper} {a : Act} {Q : Exit → Act → World → Prop} {W : World} {t : TypeId} {m : Tmp} {x v : Operand} (_ho : o.op = .insert t (.tmp m) x v) (h : wpList P ops Q (o :: rest) a W) : wpList P ops Q (o :: rest) a W := h
theorem wpList_put_new {P : Program} (w : World) {ops : Array Oper} {rest : List Oper} {o : Oper} {a : Act} {Q : Exit → Act → World → Prop} (hg : o.guard = none) (m x v : Operand) (t kt et : TypeId) (kd : TypeDesc) (hop : o.op = Op.insert t m x v)
    (ht : P.underlying t = some (.map kt et)) (hk : P.underlying kt = some kd) (hp : plainKey kd = true) (r : Nat) (es : Array MapEntry) (cl : Nat) (hm : a.eval m = .map (some r)) (hb : w.heap[r]? = some (.map es cl)) (key val : Value) (hx : a.eval x = key) (hv : a.eval v = val) (hf : Instr.findNow kd key es.toList 0 = some none)
    (hK : ∀ w', w'.heap[r]? = some (.map (es.push { key, val, born := cl }) (cl + 1)) → w.grownBy w' (some r) → w'.heap.size = w.heap.size → wpList P ops Q rest (a.put o.dst undef) w') : wpList P ops Q (o :: rest) a w := by
  have hlt := (Array.getElem?_eq_some_iff.1 hb).1
  refine wpList_plain hg fun K' hK' => ?_
  unfold Oper.wp
  simp [execOp, hop, hm, hx, hv, run_put_new ht hk hp hb hf, Result.andThen]
  refine hK' _ _ (hK _ ?_ ⟨rfl, rfl, rfl, by simp, fun i hi e => ?_⟩ (by simp))
  · simp [hlt]
  · have : r ≠ i := fun h => e (by rw [h])
    simp [this]
/-- The maps that were made so far: they lie one behind the other. -/
structure MM (w W : World) (b : Nat) (L : List (Array MapEntry × Nat)) : Prop where
  base : w.heap.size = b
  below : Below b w W
  size : W.heap.size = b + L.length
  at_ : ∀ i x, L[i]? = some x → W.heap[b + i]? = some (.map x.1 x.2)
theorem MM.nil (w : World) (b : Nat) (h : w.heap.size = b) : MM w w b [] := ⟨h, Below.refl _ _, h, fun i x h => by simp at h⟩
theorem MM.alloc {w W : World} {b : Nat} {L : List (Array MapEntry × Nat)} (h : MM w W b L) : MM w (W.alloc (.map #[] 0)) b (L ++ [(#[], 0)]) := by
  refine ⟨h.base, h.below.alloc (by rw [h.size]; omega) _, by rw [World.size_alloc, h.size, List.length_append]; rfl, fun i x hx => ?_⟩
  rcases Nat.lt_or_ge i L.length with hi | hi
  · rw [List.getElem?_append_left hi] at hx
    rw [Below.heap_alloc _ _ _ (by rw [h.size]; omega)]
    exact h.at_ i x hx
  · rw [List.getElem?_append_right hi] at hx
    have hi2 : i = L.length := by
      have := (List.getElem?_eq_some_iff.1 hx).1
      simp at this
      omega
    subst hi2
    rw [Nat.sub_self] at hx
    cases hx
    rw [← h.size]
    exact World.alloc_heap_new W _
theorem MM.put {w W W' : World} {b : Nat} {L : List (Array MapEntry × Nat)} (h : MM w W b L) {i : Nat} {es : Array MapEntry} {cl : Nat} (hi : i < L.length) (hb : W'.heap[b + i]? = some (.map es cl)) (hg : W.grownBy W' (some (b + i))) (hs : W'.heap.size = W.heap.size) : MM w W' b (L.set i (es, cl)) := by
  refine ⟨h.base, h.below.grown hg (by rw [h.size]; omega) (fun k hk => by cases hk; omega), by rw [hs, h.size, List.length_set], fun j x hx => ?_⟩
  rw [List.getElem?_set] at hx
  by_cases e : i = j
  · subst e
    rw [if_pos rfl, if_pos hi] at hx
    cases hx
    exact hb
  · rw [if_neg e] at hx
    have := (List.getElem?_eq_some_iff.1 hx).1
    exact (hg.block _ (by rw [h.size]; omega) (fun k => e (by injection k; omega))).trans (h.at_ j x hx)
def sNew : ByteArray := ⟨#[110, 101, 119]⟩
def sRings : ByteArray := ⟨#[114, 105, 110, 103, 115]⟩
def sTalks : ByteArray := ⟨#[116, 97, 108, 107, 115]⟩
def sLost : ByteArray := ⟨#[108, 111, 115, 116]⟩
def sEnded : ByteArray := ⟨#[101, 110, 100, 101, 100]⟩
def sRefused : ByteArray := ⟨#[114, 101, 102, 117, 115, 101, 100]⟩
def sOdd : ByteArray := ⟨#[111, 100, 100]⟩
def ent (k v : ByteArray) (c : Nat) : MapEntry := { key := .string k, val := .string v, born := c }
def eni (k : Int) (v : Nat) (c : Nat) : MapEntry := { key := .int .i64 k, val := .map (some v), born := c }
/-- All maps of moves. -/
def movesL (b : Nat) : List (Array MapEntry × Nat) := [(#[eni 1 (b + 1) 0, eni 2 (b + 2) 1, eni 3 (b + 3) 2, eni 4 (b + 4) 3], 4), (#[ent sNew sRings 0], 1), (#[ent sNew sTalks 0, ent sRings sTalks 1], 2), (#[ent sNew sLost 0, ent sRings sLost 1, ent sTalks sEnded 2], 3), (#[ent sNew sRefused 0, ent sRings sRefused 1], 2)]
set_option maxHeartbeats 4000000 in
set_option maxRecDepth 100000 in
theorem moves.calls (w : World) (b : Nat) (hb : w.heap.size = b) : Calls Tryd.prog 23 #[] w fun e w' => e = .returned (.map (some b)) ∧ MM w w' b (movesL b) := by
  have M0 := Aside0.mk (MM.nil w b hb)
  go_enter Tryd.func23, Tryd.ntmps23
  go_wp2_with (first
    | ((with_reducible refine gate_mk (t := 61) (d := 1) rfl rfl ?_); refine wpList_mk _ rfl 61 rfl b M0.out.size ?_; have M1 : Aside0 (MM w (w.alloc (.map #[] 0)) b [(#[], 0)]) := ⟨M0.out.alloc⟩)
    | ((with_reducible refine gate_mk (t := 60) (d := 2) rfl rfl ?_); refine wpList_mk _ rfl 60 rfl (b + 1) M1.out.size ?_; have M2 : Aside0 (MM w ((w.alloc (.map #[] 0)).alloc (.map #[] 0)) b [(#[], 0), (#[], 0)]) := ⟨M1.out.alloc⟩)
    | ((with_reducible refine gate_ins (t := 60) (m := 2) (x := (.const (.string ⟨#[110, 101, 119]⟩))) (v := (.const (.string ⟨#[114, 105, 110, 103, 115]⟩))) rfl ?_); refine wpList_put_new _ rfl (.tmp 2) (.const (.string ⟨#[110, 101, 119]⟩)) (.const (.string ⟨#[114, 105, 110, 103, 115]⟩)) 60 9 9 .string rfl Tryd.underlying60 Tryd.underlying9 rfl (b + 1) #[] 0 (by first | rfl) (M2.out.at_ 1 _ rfl) (.string sNew) (.string sRings) rfl (by first | rfl) rfl ?_; intro W3 hb1 hg hs; have M3 : Aside0 (MM w W3 b [(#[], 0), (#[ent sNew sRings 0], 1)]) := ⟨M2.out.put (i := 1) (by simp) hb1 hg hs⟩; clear hb1 hg hs)
    | ((with_reducible refine gate_ins (t := 61) (m := 1) (x := (.const (.int .i64 1))) (v := (.tmp 3)) rfl ?_); refine wpList_put_new _ rfl (.tmp 1) (.const (.int .i64 1)) (.tmp 3) 61 3 60 (.int .i64) rfl Tryd.underlying61 Tryd.underlying3 rfl b #[] 0 (by first | rfl) (M3.out.at_ 0 _ rfl) (.int .i64 1) (.map (some (b + 1))) rfl (by first | rfl) rfl ?_; intro W4 hb1 hg hs; have M4 : Aside0 (MM w W4 b [(#[eni 1 (b + 1) 0], 1), (#[ent sNew sRings 0], 1)]) := ⟨M3.out.put (i := 0) (by simp) hb1 hg hs⟩; clear hb1 hg hs)
    | ((with_reducible refine gate_mk (t := 60) (d := 4) rfl rfl ?_); refine wpList_mk _ rfl 60 rfl (b + 2) M4.out.size ?_; have M5 : Aside0 (MM w (W4.alloc (.map #[] 0)) b [(#[eni 1 (b + 1) 0], 1), (#[ent sNew sRings 0], 1), (#[], 0)]) := ⟨M4.out.alloc⟩)
    | ((with_reducible refine gate_ins (t := 60) (m := 4) (x := (.const (.string ⟨#[110, 101, 119]⟩))) (v := (.const (.string ⟨#[116, 97, 108, 107, 115]⟩))) rfl ?_); refine wpList_put_new _ rfl (.tmp 4) (.const (.string ⟨#[110, 101, 119]⟩)) (.const (.string ⟨#[116, 97, 108, 107, 115]⟩)) 60 9 9 .string rfl Tryd.underlying60 Tryd.underlying9 rfl (b + 2) #[] 0 (by first | rfl) (M5.out.at_ 2 _ rfl) (.string sNew) (.string sTalks) rfl (by first | rfl) rfl ?_; intro W6 hb1 hg hs; have M6 : Aside0 (MM w W6 b [(#[eni 1 (b + 1) 0], 1), (#[ent sNew sRings 0], 1), (#[ent sNew sTalks 0], 1)]) := ⟨M5.out.put (i := 2) (by simp) hb1 hg hs⟩; clear hb1 hg hs)
    | ((with_reducible refine gate_ins (t := 60) (m := 4) (x := (.const (.string ⟨#[114, 105, 110, 103, 115]⟩))) (v := (.const (.string ⟨#[116, 97, 108, 107, 115]⟩))) rfl ?_); refine wpList_put_new _ rfl (.tmp 4) (.const (.string ⟨#[114, 105, 110, 103, 115]⟩)) (.const (.string ⟨#[116, 97, 108, 107, 115]⟩)) 60 9 9 .string rfl Tryd.underlying60 Tryd.underlying9 rfl (b + 2) #[ent sNew sTalks 0] 1 (by first | rfl) (M6.out.at_ 2 _ rfl) (.string sRings) (.string sTalks) rfl (by first | rfl) rfl ?_; intro W7 hb1 hg hs; have M7 : Aside0 (MM w W7 b [(#[eni 1 (b + 1) 0], 1), (#[ent sNew sRings 0], 1), (#[ent sNew sTalks 0, ent sRings sTalks 1], 2)]) := ⟨M6.out.put (i := 2) (by simp) hb1 hg hs⟩; clear hb1 hg hs)
    | ((with_reducible refine gate_ins (t := 61) (m := 1) (x := (.const (.int .i64 2))) (v := (.tmp 5)) rfl ?_); refine wpList_put_new _ rfl (.tmp 1) (.const (.int .i64 2)) (.tmp 5) 61 3 60 (.int .i64) rfl Tryd.underlying61 Tryd.underlying3 rfl b #[eni 1 (b + 1) 0] 1 (by first | rfl) (M7.out.at_ 0 _ rfl) (.int .i64 2) (.map (some (b + 2))) rfl (by first | rfl) rfl ?_; intro W8 hb1 hg hs; have M8 : Aside0 (MM w W8 b [(#[eni 1 (b + 1) 0, eni 2 (b + 2) 1], 2), (#[ent sNew sRings 0], 1), (#[ent sNew sTalks 0, ent sRings sTalks 1], 2)]) := ⟨M7.out.put (i := 0) (by simp) hb1 hg hs⟩; clear hb1 hg hs)
    | ((with_reducible refine gate_mk (t := 60) (d := 6) rfl rfl ?_); refine wpList_mk _ rfl 60 rfl (b + 3) M8.out.size ?_; have M9 : Aside0 (MM w (W8.alloc (.map #[] 0)) b [(#[eni 1 (b + 1) 0, eni 2 (b + 2) 1], 2), (#[ent sNew sRings 0], 1), (#[ent sNew sTalks 0, ent sRings sTalks 1], 2), (#[], 0)]) := ⟨M8.out.alloc⟩)
    | ((with_reducible refine gate_ins (t := 60) (m := 6) (x := (.const (.string ⟨#[110, 101, 119]⟩))) (v := (.const (.string ⟨#[108, 111, 115, 116]⟩))) rfl ?_); refine wpList_put_new _ rfl (.tmp 6) (.const (.string ⟨#[110, 101, 119]⟩)) (.const (.string ⟨#[108, 111, 115, 116]⟩)) 60 9 9 .string rfl Tryd.underlying60 Tryd.underlying9 rfl (b + 3) #[] 0 (by first | rfl) (M9.out.at_ 3 _ rfl) (.string sNew) (.string sLost) rfl (by first | rfl) rfl ?_; intro W10 hb1 hg hs; have M10 : Aside0 (MM w W10 b [(#[eni 1 (b + 1) 0, eni 2 (b + 2) 1], 2), (#[ent sNew sRings 0], 1), (#[ent sNew sTalks 0, ent sRings sTalks 1], 2), (#[ent sNew sLost 0], 1)]) := ⟨M9.out.put (i := 3) (by simp) hb1 hg hs⟩; clear hb1 hg hs)
    | ((with_reducible refine gate_ins (t := 60) (m := 6) (x := (.const (.string ⟨#[114, 105, 110, 103, 115]⟩))) (v := (.const (.string ⟨#[108, 111, 115, 116]⟩))) rfl ?_); refine wpList_put_new _ rfl (.tmp 6) (.const (.string ⟨#[114, 105, 110, 103, 115]⟩)) (.const (.string ⟨#[108, 111, 115, 116]⟩)) 60 9 9 .string rfl Tryd.underlying60 Tryd.underlying9 rfl (b + 3) #[ent sNew sLost 0] 1 (by first | rfl) (M10.out.at_ 3 _ rfl) (.string sRings) (.string sLost) rfl (by first | rfl) rfl ?_; intro W11 hb1 hg hs; have M11 : Aside0 (MM w W11 b [(#[eni 1 (b + 1) 0, eni 2 (b + 2) 1], 2), (#[ent sNew sRings 0], 1), (#[ent sNew sTalks 0, ent sRings sTalks 1], 2), (#[ent sNew sLost 0, ent sRings sLost 1], 2)]) := ⟨M10.out.put (i := 3) (by simp) hb1 hg hs⟩; clear hb1 hg hs)
    | ((with_reducible refine gate_ins (t := 60) (m := 6) (x := (.const (.string ⟨#[116, 97, 108, 107, 115]⟩))) (v := (.const (.string ⟨#[101, 110, 100, 101, 100]⟩))) rfl ?_); refine wpList_put_new _ rfl (.tmp 6) (.const (.string ⟨#[116, 97, 108, 107, 115]⟩)) (.const (.string ⟨#[101, 110, 100, 101, 100]⟩)) 60 9 9 .string rfl Tryd.underlying60 Tryd.underlying9 rfl (b + 3) #[ent sNew sLost 0, ent sRings sLost 1] 2 (by first | rfl) (M11.out.at_ 3 _ rfl) (.string sTalks) (.string sEnded) rfl (by first | rfl) rfl ?_; intro W12 hb1 hg hs; have M12 : Aside0 (MM w W12 b [(#[eni 1 (b + 1) 0, eni 2 (b + 2) 1], 2), (#[ent sNew sRings 0], 1), (#[ent sNew sTalks 0, ent sRings sTalks 1], 2), (#[ent sNew sLost 0, ent sRings sLost 1, ent sTalks sEnded 2], 3)]) := ⟨M11.out.put (i := 3) (by simp) hb1 hg hs⟩; clear hb1 hg hs)
    | ((with_reducible refine gate_ins (t := 61) (m := 1) (x := (.const (.int .i64 3))) (v := (.tmp 7)) rfl ?_); refine wpList_put_new _ rfl (.tmp 1) (.const (.int .i64 3)) (.tmp 7) 61 3 60 (.int .i64) rfl Tryd.underlying61 Tryd.underlying3 rfl b #[eni 1 (b + 1) 0, eni 2 (b + 2) 1] 2 (by first | rfl) (M12.out.at_ 0 _ rfl) (.int .i64 3) (.map (some (b + 3))) rfl (by first | rfl) rfl ?_; intro W13 hb1 hg hs; have M13 : Aside0 (MM w W13 b [(#[eni 1 (b + 1) 0, eni 2 (b + 2) 1, eni 3 (b + 3) 2], 3), (#[ent sNew sRings 0], 1), (#[ent sNew sTalks 0, ent sRings sTalks 1], 2), (#[ent sNew sLost 0, ent sRings sLost 1, ent sTalks sEnded 2], 3)]) := ⟨M12.out.put (i := 0) (by simp) hb1 hg hs⟩; clear hb1 hg hs)
    | ((with_reducible refine gate_mk (t := 60) (d := 8) rfl rfl ?_); refine wpList_mk _ rfl 60 rfl (b + 4) M13.out.size ?_; have M14 : Aside0 (MM w (W13.alloc (.map #[] 0)) b [(#[eni 1 (b + 1) 0, eni 2 (b + 2) 1, eni 3 (b + 3) 2], 3), (#[ent sNew sRings 0], 1), (#[ent sNew sTalks 0, ent sRings sTalks 1], 2), (#[ent sNew sLost 0, ent sRings sLost 1, ent sTalks sEnded 2], 3), (#[], 0)]) := ⟨M13.out.alloc⟩)
    | ((with_reducible refine gate_ins (t := 60) (m := 8) (x := (.const (.string ⟨#[110, 101, 119]⟩))) (v := (.const (.string ⟨#[114, 101, 102, 117, 115, 101, 100]⟩))) rfl ?_); refine wpList_put_new _ rfl (.tmp 8) (.const (.string ⟨#[110, 101, 119]⟩)) (.const (.string ⟨#[114, 101, 102, 117, 115, 101, 100]⟩)) 60 9 9 .string rfl Tryd.underlying60 Tryd.underlying9 rfl (b + 4) #[] 0 (by first | rfl) (M14.out.at_ 4 _ rfl) (.string sNew) (.string sRefused) rfl (by first | rfl) rfl ?_; intro W15 hb1 hg hs; have M15 : Aside0 (MM w W15 b [(#[eni 1 (b + 1) 0, eni 2 (b + 2) 1, eni 3 (b + 3) 2], 3), (#[ent sNew sRings 0], 1), (#[ent sNew sTalks 0, ent sRings sTalks 1], 2), (#[ent sNew sLost 0, ent sRings sLost 1, ent sTalks sEnded 2], 3), (#[ent sNew sRefused 0], 1)]) := ⟨M14.out.put (i := 4) (by simp) hb1 hg hs⟩; clear hb1 hg hs)
    | ((with_reducible refine gate_ins (t := 60) (m := 8) (x := (.const (.string ⟨#[114, 105, 110, 103, 115]⟩))) (v := (.const (.string ⟨#[114, 101, 102, 117, 115, 101, 100]⟩))) rfl ?_); refine wpList_put_new _ rfl (.tmp 8) (.const (.string ⟨#[114, 105, 110, 103, 115]⟩)) (.const (.string ⟨#[114, 101, 102, 117, 115, 101, 100]⟩)) 60 9 9 .string rfl Tryd.underlying60 Tryd.underlying9 rfl (b + 4) #[ent sNew sRefused 0] 1 (by first | rfl) (M15.out.at_ 4 _ rfl) (.string sRings) (.string sRefused) rfl (by first | rfl) rfl ?_; intro W16 hb1 hg hs; have M16 : Aside0 (MM w W16 b [(#[eni 1 (b + 1) 0, eni 2 (b + 2) 1, eni 3 (b + 3) 2], 3), (#[ent sNew sRings 0], 1), (#[ent sNew sTalks 0, ent sRings sTalks 1], 2), (#[ent sNew sLost 0, ent sRings sLost 1, ent sTalks sEnded 2], 3), (#[ent sNew sRefused 0, ent sRings sRefused 1], 2)]) := ⟨M15.out.put (i := 4) (by simp) hb1 hg hs⟩; clear hb1 hg hs)
    | ((with_reducible refine gate_ins (t := 61) (m := 1) (x := (.const (.int .i64 4))) (v := (.tmp 9)) rfl ?_); refine wpList_put_new _ rfl (.tmp 1) (.const (.int .i64 4)) (.tmp 9) 61 3 60 (.int .i64) rfl Tryd.underlying61 Tryd.underlying3 rfl b #[eni 1 (b + 1) 0, eni 2 (b + 2) 1, eni 3 (b + 3) 2] 3 (by first | rfl) (M16.out.at_ 0 _ rfl) (.int .i64 4) (.map (some (b + 4))) rfl (by first | rfl) rfl ?_; intro W17 hb1 hg hs; have M17 : Aside0 (MM w W17 b [(#[eni 1 (b + 1) 0, eni 2 (b + 2) 1, eni 3 (b + 3) 2, eni 4 (b + 4) 3], 4), (#[ent sNew sRings 0], 1), (#[ent sNew sTalks 0, ent sRings sTalks 1], 2), (#[ent sNew sLost 0, ent sRings sLost 1, ent sTalks sEnded 2], 3), (#[ent sNew sRefused 0, ent sRings sRefused 1], 2)]) := ⟨M16.out.put (i := 0) (by simp) hb1 hg hs⟩; clear hb1 hg hs))
  go_ret
  exact ⟨rfl, M17.out⟩
end Go.Proofs.YtbloalfgbpgepaaDoor.T
