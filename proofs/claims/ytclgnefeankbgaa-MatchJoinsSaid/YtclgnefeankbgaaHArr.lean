/- Parameters that are small arrays of whole numbers or strings: opened and shut. Conditions: each element has one cell. -/
import Derived.ProofKit
import Derived.OpenShut
import Derived.SizedLaws
import Derived.ShutString
namespace Go.Proofs.Ytclgnefeankbgaa.Hand
open Go Go.ChangeShapes Go.WideShapes Go.ChangeAt Go.RowKit
variable {H : Type} {enc : TypeId × Value → H} {P : Program} {W : World} {base : Nat} {sp : Nat → Bool} {held : Bool} {t e : TypeId} {n : Nat} {k : IntKind}

theorem list2 {α : Type} {l : List α} (h : l.length = 2) : ∃ a b, l = [a, b] := by
  match l, h with
  | [a, b], _ => exact ⟨a, b, rfl⟩
theorem list3 {α : Type} {l : List α} (h : l.length = 3) : ∃ a b c, l = [a, b, c] := by
  match l, h with
  | [a, b, c], _ => exact ⟨a, b, c, rfl⟩
theorem list4 {α : Type} {l : List α} (h : l.length = 4) : ∃ a b c d, l = [a, b, c, d] := by
  match l, h with
  | [a, b, c, d], _ => exact ⟨a, b, c, d, rfl⟩

theorem okWide_array {r : Reach} {b0 : Nat} {v : Value} (ht : P.underlying t = some (.array n e)) (h : Value.okWide P W r b0 t v) : ∃ cs : Array Value, v = .agg cs := by
  simp only [Value.okWide, ht] at h
  obtain ⟨cs, h1, _, _⟩ := h
  exact ⟨cs, h1⟩

theorem ints_of (he : P.underlying e = some (.int k)) {m : Nat} : ∀ (cs : List Value) (xs : List (DataW H × List MemPlace)), cs.length = xs.length →
    (∀ i, i < xs.length → DataW.trod enc P W base sp held m e ((cs.drop i).take 1) = xs[i]?) → ∃ zs : List Int, cs = zs.map (Value.int k) ∧ xs = zs.map (fun z => (DataW.lit (.int k z), [])) ∧ ∀ z ∈ zs, (Lit.int k z).wf = true
  | [], [], _, _ => ⟨[], rfl, rfl, by simp⟩
  | [], _ :: _, h, _ => by simp at h
  | _ :: _, [], h, _ => by simp at h
  | c :: cs, x :: xs, h, hx => by
    obtain ⟨a, ea, rfl, wa⟩ := DataW.trod_int he (show DataW.trod enc P W base sp held m e [c] = some x by simpa using hx 0 (by simp))
    obtain ⟨zs, rfl, rfl, hz⟩ := ints_of he cs xs (by simpa using h) (fun i hi => by simpa using hx (i + 1) (by simpa using hi))
    cases ea
    exact ⟨a :: zs, rfl, rfl, by simpa using ⟨wa, hz⟩⟩

theorem open_ints_arr {r : Reach} {b0 : Nat} {v : Value} {d : DataW H} {p : List MemPlace} (ht : P.underlying t = some (.array n e)) (he : P.underlying e = some (.int k)) (hc : P.cellsOf t = n ∧ P.cellsOf e = 1)
    (hv : Value.okWide P W r b0 t v) (h : DataW.Trod enc P W base sp held t v d p) :
    ∃ zs : List Int, v = .agg (zs.map (Value.int k)).toArray ∧ zs.length = n ∧ d = .agg (zs.map fun z => DataW.lit (.int k z)) ∧ p = [] ∧ ∀ z ∈ zs, (Lit.int k z).wf = true := by
  obtain ⟨cs, rfl⟩ := okWide_array ht hv
  obtain ⟨fuel, hf⟩ := h
  obtain ⟨xs, m, rfl, hx, hl, hn, hg⟩ := DataW.trod_array ht hf
  have hl' : cs.toList.length = xs.length := by rw [hn, ← hc.1, ← hl]; rfl
  obtain ⟨zs, hcs, rfl, hz⟩ := ints_of he cs.toList xs hl' (fun i hi => by
    have := hg i (by omega)
    rw [hc.2, Nat.mul_one] at this
    exact this)
  simp only [Prod.mk.injEq] at hx
  refine ⟨zs, by rw [← hcs], by simpa using hn, ?_, ?_, hz⟩
  · rw [hx.1, List.map_map]; rfl
  · rw [hx.2]
    induction zs with
    | nil => rfl
    | cons a l ih => simp

theorem mapM_range {α : Type} (f : Nat → Option α) (xs : List α) (h : ∀ i, i < xs.length → f i = xs[i]?) : (List.range xs.length).mapM f = some xs := by
  induction xs generalizing f with
  | nil => rfl
  | cons x xs ih =>
    rw [List.length_cons, List.range_succ_eq_map, List.mapM_cons, h 0 (by simp)]
    have := ih (fun i => f (i + 1)) (fun i hi => by simpa using h (i + 1) (by simpa using hi))
    have e : (List.map Nat.succ (List.range xs.length)).mapM f = (List.range xs.length).mapM (fun i => f (i + 1)) := by
      generalize List.range xs.length = l
      induction l with
      | nil => rfl
      | cons a l ih2 => simp only [List.map_cons, List.mapM_cons, ih2]
    rw [e, this]
    rfl

theorem shut_ints_arr {zs : List Int} (ht : P.underlying t = some (.array n e)) (he : P.underlying e = some (.int k)) (hc : P.cellsOf t = n ∧ P.cellsOf e = 1) (hn : zs.length = n) (hz : ∀ z ∈ zs, (Lit.int k z).wf = true) :
    DataW.Trod enc P W base sp held t (.agg (zs.map (Value.int k)).toArray) (.agg (zs.map fun z => DataW.lit (.int k z))) [] := by
  refine ⟨2, ?_⟩
  unfold DataW.trod
  rw [ht]
  have hm := mapM_range (fun i => DataW.trod enc P W base sp held 1 e (((zs.map (Value.int k)).drop i).take 1)) (zs.map (fun z => (DataW.lit (.int k z), ([] : List MemPlace)))) (fun i hi => by
    have hi' : i < zs.length := by simpa using hi
    rw [List.drop_eq_getElem_cons (by simpa using hi')]
    simp only [List.take_succ_cons, List.take_zero, List.getElem_map, List.getElem?_map, List.getElem?_eq_getElem hi', Option.map_some]
    simp [DataW.trod, he, hz _ (List.getElem_mem hi')])
  rw [List.length_map] at hm
  have hflat : (zs.map (fun z => (DataW.lit (H := H) (.int k z), ([] : List MemPlace)))).flatMap (·.2) = [] := by
    clear hm hn hz
    induction zs with
    | nil => rfl
    | cons a l ih => simp
  simp only [Value.cells, hc.2, Nat.mul_one, ← hn, hm]
  simp [hc.1, hn, hflat, Function.comp_def]
theorem strs_of (he : P.underlying e = some .string) {m : Nat} : ∀ (cs : List Value) (xs : List (DataW H × List MemPlace)), cs.length = xs.length →
    (∀ i, i < xs.length → DataW.trod enc P W base sp held m e ((cs.drop i).take 1) = xs[i]?) → ∃ zs : List ByteArray, cs = zs.map Value.string ∧ xs = zs.map (fun z => (DataW.lit (.string z.data.toList), [])) ∧ ∀ z ∈ zs, z.size ≤ maxLen
  | [], [], _, _ => ⟨[], rfl, rfl, by simp⟩
  | [], _ :: _, h, _ => by simp at h
  | _ :: _, [], h, _ => by simp at h
  | c :: cs, x :: xs, h, hx => by
    obtain ⟨a, ea, rfl, wa⟩ := DataW.trod_string he (show DataW.trod enc P W base sp held m e [c] = some x by simpa using hx 0 (by simp))
    obtain ⟨zs, rfl, rfl, hz⟩ := strs_of he cs xs (by simpa using h) (fun i hi => by simpa using hx (i + 1) (by simpa using hi))
    cases ea
    exact ⟨a :: zs, rfl, rfl, by simpa using ⟨wa, hz⟩⟩

theorem open_strs_arr {r : Reach} {b0 : Nat} {v : Value} {d : DataW H} {p : List MemPlace} (ht : P.underlying t = some (.array n e)) (he : P.underlying e = some .string) (hc : P.cellsOf t = n ∧ P.cellsOf e = 1)
    (hv : Value.okWide P W r b0 t v) (h : DataW.Trod enc P W base sp held t v d p) :
    ∃ zs : List ByteArray, v = .agg (zs.map Value.string).toArray ∧ zs.length = n ∧ d = .agg (zs.map fun z => DataW.lit (.string z.data.toList)) ∧ p = [] ∧ ∀ z ∈ zs, z.size ≤ maxLen := by
  obtain ⟨cs, rfl⟩ := okWide_array ht hv
  obtain ⟨fuel, hf⟩ := h
  obtain ⟨xs, m, rfl, hx, hl, hn, hg⟩ := DataW.trod_array ht hf
  have hl' : cs.toList.length = xs.length := by rw [hn, ← hc.1, ← hl]; rfl
  obtain ⟨zs, hcs, rfl, hz⟩ := strs_of he cs.toList xs hl' (fun i hi => by
    have := hg i (by omega)
    rw [hc.2, Nat.mul_one] at this
    exact this)
  simp only [Prod.mk.injEq] at hx
  refine ⟨zs, by rw [← hcs], by simpa using hn, ?_, ?_, hz⟩
  · rw [hx.1, List.map_map]; rfl
  · rw [hx.2]
    clear hx hn hg hl hcs hl' hz
    induction zs with
    | nil => rfl
    | cons a l ih => simp

theorem shut_strs_arr {zs : List ByteArray} (ht : P.underlying t = some (.array n e)) (he : P.underlying e = some .string) (hc : P.cellsOf t = n ∧ P.cellsOf e = 1) (hn : zs.length = n) (hz : ∀ z ∈ zs, z.size ≤ maxLen) :
    DataW.Trod enc P W base sp held t (.agg (zs.map Value.string).toArray) (.agg (zs.map fun z => DataW.lit (.string z.data.toList))) [] := by
  refine ⟨2, ?_⟩
  unfold DataW.trod
  rw [ht]
  have hm := mapM_range (fun i => DataW.trod enc P W base sp held 1 e (((zs.map Value.string).drop i).take 1)) (zs.map (fun z => (DataW.lit (.string z.data.toList), ([] : List MemPlace)))) (fun i hi => by
    have hi' : i < zs.length := by simpa using hi
    rw [List.drop_eq_getElem_cons (by simpa using hi')]
    simp only [List.take_succ_cons, List.take_zero, List.getElem_map, List.getElem?_map, List.getElem?_eq_getElem hi', Option.map_some]
    simp [DataW.trod, he, hz _ (List.getElem_mem hi')])
  rw [List.length_map] at hm
  have hflat : (zs.map (fun z => (DataW.lit (H := H) (.string z.data.toList), ([] : List MemPlace)))).flatMap (·.2) = [] := by
    clear hm hn hz
    induction zs with
    | nil => rfl
    | cons a l ih => simp
  simp only [Value.cells, hc.2, Nat.mul_one, ← hn, hm]
  simp [hc.1, hn, hflat, Function.comp_def]
theorem weights_strs {zs : List ByteArray} : ∀ z ∈ zs, z.data.toList.length ∈ DataW.weightsAll P e (zs.map fun z => DataW.lit (H := H) (.string z.data.toList)) := by
  induction zs with
  | nil => intro z hz; cases hz
  | cons a l ih =>
    intro z hz
    simp only [List.map_cons, DataW.weightsAll, DataW.weights, List.mem_append]
    rcases List.mem_cons.1 hz with rfl | hz
    · exact Or.inl (by simp)
    · exact Or.inr (ih z hz)
theorem sized_strs_arr {ts : List TypeId} {ds : List (DataW H)} {zs : List ByteArray} (h : (DataW.weightsEach P ts ds).all (· ≤ reachBytes) = true) {j : Nat} (ht : ts[j]? = some t) (hd : ds[j]? = some (.agg (zs.map fun z => DataW.lit (.string z.data.toList)))) (hu : P.underlying t = some (.array n e)) :
    ∀ z ∈ zs, z.size ≤ 140737488351232 := by
  intro z hz
  have h2 := List.all_eq_true.1 h _ (DataW.weights_mem_each ht hd z.data.toList.length (by simp only [DataW.weights, hu]; exact weights_strs z hz))
  have h3 : z.data.toList.length ≤ reachBytes := by simpa using h2
  rw [Array.length_toList] at h3
  exact h3
end Go.Proofs.Ytclgnefeankbgaa.Hand
