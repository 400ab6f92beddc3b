/- A parameter '[]api.Sample' opened: what lies in its cells; the law VoicePlays' walk over it. Conditions: as each theorem says. -/
import Derived.Test.YtcinmodpfdehpaaN2
import Derived.Test.YtcinmodpfdehpaaPx9
import Derived.Deep.Slices
import Derived.Deep.Fields
import Derived.ChangeSame
import Derived.ChangeSlices
import Derived.SizedLaws
namespace Go.Proofs.Ytcinmodpfdehpaa.T
open Go Go.RowKit Go.Proofs.Ytcinmodpfdehpaa.P Go.Proofs.Ytcinmodpfdehpaa.Pure Go.Proofs.YtcinmodpfdehpaaW.PrintWords Go.Proofs.YtcinmodpfdehpaaW.PrintLast Go.Proofs.YtcinmodpfdehpaaW.PrintMore Hand Go.ChangeShapes Go.WideShapes Go.Deep
set_option linter.unusedVariables false
instance : Inhabited S39 := ⟨z39⟩
theorem weightsAll_in4 {H : Type} {P : Program} {e : TypeId} {d : DataW H} : ∀ {l : List (DataW H)}, d ∈ l → ∀ n ∈ d.weights P e, n ∈ DataW.weightsAll P e l
  | [], h, _, _ => by cases h
  | x :: l, h, n, hn => by
    simp only [DataW.weightsAll, List.mem_append]
    rcases List.mem_cons.1 h with rfl | h
    · exact .inl hn
    · exact .inr (weightsAll_in4 h n hn)
def SmpAt (w : World) (x : Addr) (i : Nat) (v : S39) : Prop := ∃ cs, cs.length = 4 ∧ k39.K w v cs ∧ ∀ j u, cs[j]? = some u → w.cell? (x.add (i * 4 + j)) = some u
section
variable {H : Type} {enc : TypeId × Value → H} {W : World} {held : Bool}
/-- One sample, by its four cells and their readings. -/
theorem open_smp {a : Addr} {i n : Nat} {ys : List (DataW H × List MemPlace)} (hlen : ys.length = 4)
    (hf : ∀ (j : Nat) (f : Field), (#[{ name := "Seq", type := 3, offset := 0, embedded := false, tag := "", pkgPath := "", byteOffset := 0 }, { name := "Stamp", type := 3, offset := 1, embedded := false, tag := "", pkgPath := "", byteOffset := 8 }, { name := "Time", type := 3, offset := 2, embedded := false, tag := "", pkgPath := "", byteOffset := 16 }, { name := "Data", type := 37, offset := 3, embedded := false, tag := "", pkgPath := "", byteOffset := 24 }] : Array Field)[j]? = some f → ∃ (v : Value) (y : DataW H × List MemPlace), W.cell? (a.add (i * 4 + j)) = some v ∧ ys[j]? = some y ∧ DataW.trod enc Try.prog W 0 (fun _ => true) held n f.type [v] = some y)
    (hw : ∀ (es es' : List (DataW H)), (ys.map (·.1))[3]? = some (.slice es es') → (es.length + es'.length) * Try.prog.bytesOf 5 ≤ reachBytes) :
    ∃ V : S39, SmpAt W a i V ∧ (∀ x ∈ V.f3, (Lit.int .u8 x).wf = true) ∧ V.f3.length ≤ 140737488351232 := by
  obtain ⟨v0, x0, c0, _, t0⟩ := hf 0 _ rfl
  obtain ⟨v1, x1, c1, _, t1⟩ := hf 1 _ rfl
  obtain ⟨v2, x2, c2, _, t2⟩ := hf 2 _ rfl
  obtain ⟨v5, x5, c5, y5, t5⟩ := hf 3 _ rfl
  obtain ⟨n0, e0, _, w0⟩ := DataW.trod_int Try.underlying3 t0
  obtain ⟨n1, e1, _, w1⟩ := DataW.trod_int Try.underlying3 t1
  obtain ⟨n2, e2, _, w2⟩ := DataW.trod_int Try.underlying3 t2
  simp only [List.cons.injEq, and_true] at e0 e1 e2
  subst e0 e1 e2
  have hrow : ∃ (A : Option Addr) (len cap : Nat) (zs : List Int), v5 = .slice A len cap ∧ len ≤ 140737488351232 ∧ ((A = none ∧ len = 0 ∧ cap = 0 ∧ zs = []) ∨ ∃ x, A = some x ∧ len ≤ cap ∧ cap ≤ maxLen ∧ zs.length = cap ∧ (∀ i, i < zs.length → W.cell? (x.add i) = some (.int .u8 (zs.getD i 0))) ∧ ∀ n ∈ zs, (Lit.int .u8 n).wf = true) := by
    rcases open_ints Try.underlying37 Try.underlying5 (by kernel_rfl) t5 with ⟨hcs, _⟩ | ⟨x, l, c, zs, hcs, _, hl, hmx, hz, hx, hcell, hwz⟩
    · simp only [List.cons.injEq, and_true] at hcs
      exact ⟨none, 0, 0, [], hcs, by decide, .inl ⟨rfl, rfl, rfl, rfl⟩⟩
    · simp only [List.cons.injEq, and_true] at hcs
      subst hx
      have hz : zs.length = c := by simpa using hz
      have h9 := hw _ _ (by rw [List.getElem?_map, y5]; rfl)
      rw [show Try.prog.bytesOf 5 = 1 from by kernel_rfl, Nat.mul_one] at h9
      have h8 : (lits (H := H) .u8 (zs.take l)).length + (lits (H := H) .u8 (zs.drop l)).length = zs.length := by
        simp [lits]
        omega
      rw [h8] at h9
      have h7 : reachBytes = 140737488351232 := by decide
      exact ⟨some x, l, c, zs, hcs, by omega, .inr ⟨x, rfl, hl, hmx, hz, hcell, hwz⟩⟩
  obtain ⟨A, len, cap, zs, rfl, hm, hr⟩ := hrow
  obtain ⟨l, rfl, hr0, hm0, hw0, hc0⟩ := ReadsInt.ofRowC hr
  refine ⟨⟨n0, n1, n2, l⟩, ⟨[.int .i64 n0, .int .i64 n1, .int .i64 n2, .slice A l.length cap], rfl, k39_mk W ⟨n0, n1, n2, l⟩ hc0 (Kd.C_of_reads (d := (0 : Int)) (h1 := fun _ => rfl) hr0), fun j u hu => ?_⟩, hw0, hm⟩
  match j, hu with
  | 0, hu => cases hu; exact c0
  | 1, hu => cases hu; exact c1
  | 2, hu => cases hu; exact c2
  | 3, hu => cases hu; exact c5
  | j + 4, hu => simp at hu
/-- The whole row of samples. -/
theorem open_smps {A : Option Addr} {len cap : Nat} {d : DataW H} {ps : List MemPlace} {ts : List TypeId} {ds : List (DataW H)} {j : Nat} (hsz : (DataW.weightsEach Try.prog ts ds).all (· ≤ reachBytes) = true) (ht : ts[j]? = some 22) (hd : ds[j]? = some d)
    (h : DataW.Trod enc Try.prog W 0 (fun _ => true) held 22 (.slice A len cap) d ps) : ∃ L : List S39, L.length = len ∧ len ≤ 140737488351232 ∧ len ≤ cap ∧ (Kd.C k39 W A L.length L ∧ ∀ V ∈ L, (∀ x ∈ V.f3, (Lit.int .u8 x).wf = true) ∧ V.f3.length ≤ 140737488351232) := by
  obtain ⟨fuel, hf⟩ := h
  rcases open_slice Try.underlying22 hf with ⟨hcs, _⟩ | ⟨a, l, c, m, n, D, Pl, hcs, _, hl, _, hm, hx, hi⟩
  · simp [Value.cells] at hcs
    obtain ⟨rfl, rfl, rfl⟩ := hcs
    exact ⟨[], rfl, by decide, Nat.le_refl _, ⟨rfl, Nat.zero_le _, fun h => absurd h (Nat.lt_irrefl 0)⟩, fun V h => absurd h (by simp)⟩
  · simp [Value.cells] at hcs
    obtain ⟨rfl, rfl, rfl⟩ := hcs
    obtain ⟨hx, _⟩ := Prod.mk.inj hx
    subst hx
    have hm : m = cap := by simpa using hm
    have hz := sized_slice hsz ht hd Try.underlying22
    rw [show Try.prog.bytesOf 39 = 48 from by kernel_rfl, List.length_map, List.length_map, List.length_range, List.length_range] at hz
    have h7 : reachBytes = 140737488351232 := by decide
    have hc6 : Try.prog.cellsOf 39 = 4 := by kernel_rfl
    have hex : ∀ i, i < len → ∃ V : S39, SmpAt W a i V ∧ (∀ x ∈ V.f3, (Lit.int .u8 x).wf = true) ∧ V.f3.length ≤ 140737488351232 := fun i hil => by
      obtain ⟨cs', hc, htr⟩ := hi i (by omega)
      rw [hc6] at hc
      obtain ⟨ys, n', _, hy, _, hyl, hfl⟩ := DataW.trod_struct Try.underlying39 htr
      obtain ⟨_, hcl, hat⟩ := World.cells?_some hc
      simp only [Prod.mk.injEq] at hy
      refine open_smp (enc := enc) (held := held) (n := n') (ys := ys) hyl (fun k f hk => ?_) (fun es es' he => ?_)
      · obtain ⟨ho, h1⟩ := hone_of (P := Try.prog) (by kernel_rfl) k f hk
        have hkl := (Array.getElem?_eq_some_iff.1 hk).1
        have hk6 : k < 4 := hkl
        have h2 := hfl k f hk
        rw [ho, h1] at h2
        have h3 : (cs'.drop k).take 1 = [cs'[k]'(by omega)] := by
          rw [List.drop_eq_getElem_cons (by omega)]
          rfl
        rw [h3] at h2
        have hys : ys[k]? = some (ys[k]'(by rw [hyl]; exact hkl)) := List.getElem?_eq_getElem (by rw [hyl]; exact hkl)
        refine ⟨_, _, ?_, hys, h2.trans hys⟩
        rw [← Go.Deep.add_add, hat k hk6, List.getElem?_eq_getElem (by omega)]
      · refine of_decide_eq_true (List.all_eq_true.1 hsz _ (DataW.weights_mem_each ht hd _ ?_))
        have hin : D i ∈ (List.range len).map D := List.mem_map.2 ⟨i, List.mem_range.2 hil, rfl⟩
        simp only [DataW.weights, Try.underlying22, List.mem_cons, List.mem_append]
        refine .inr (.inl (weightsAll_in4 hin _ ?_))
        rw [hy.1]
        clear hfl hat hin
        obtain ⟨p0, p1, p2, p3, rfl⟩ : ∃ a b c d, ys = [a, b, c, d] := by
          match ys, hyl with
          | [a, b, c, d], _ => exact ⟨a, b, c, d, rfl⟩
        simp only [List.map_cons, List.getElem?_cons_succ, List.getElem?_cons_zero, Option.some.injEq] at he
        simp [DataW.weights, Try.underlying39, DataW.weightsEach, he, Try.underlying37]
    obtain ⟨F, hF⟩ := choose_lt (α := S39) hex
    refine ⟨(List.range len).map F, by simp, by omega, hl, ⟨rfl, ?_, fun _ => ⟨a, rfl, fun j p hj => ?_⟩⟩, fun V hV => ?_⟩
    · rw [List.length_map, List.length_range]
      omega
    · obtain ⟨hjl, hp⟩ := List.getElem?_eq_some_iff.1 hj
      have hjl' : j < len := by simpa using hjl
      have e : F j = p := by rw [← hp]; simp
      obtain ⟨cs, h1, h2, h3⟩ := (hF j hjl').1
      rw [e] at h2
      exact ⟨cs, h1, h2, h3⟩
    · obtain ⟨i, hi2, rfl⟩ := List.mem_map.1 hV
      exact (hF i (List.mem_range.1 hi2)).2
end
theorem VoicePlays.walk (A0 : Option Addr) (c0 : Nat) (L : List S39) (a1 a2 a3 : Int) (w : World) (hL : Kd.C k39 w A0 L.length L ∧ ∀ V ∈ L, (∀ x ∈ V.f3, (Lit.int .u8 x).wf = true) ∧ V.f3.length ≤ 140737488351232) (hm0 : L.length ≤ 140737488351232) (hc0 : L.length ≤ c0) (w1 : (Lit.int .i64 a1).wf = true) (w2 : (Lit.int .i64 a2).wf = true) (w3 : (Lit.int .i64 a3).wf = true) :
    Calls Try.prog 3 #[.slice A0 L.length c0, .agg #[.int .i64 a1, .int .i64 a2, .int .i64 a3]] w fun e w' => e = .returned (.bool true) ∧ Below w.heap.size w w' := by
  obtain ⟨k, hk⟩ := VoicePlays L a1 a2 a3 hm0 (fun V hV => (hL.2 V hV).1)
  exact wireglasslaw25_VoicePlays.calls k A0 c0 L a1 a2 a3 true w hL.1 hc0 hk
end Go.Proofs.Ytcinmodpfdehpaa.T
