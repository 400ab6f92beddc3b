/- A parameter '[][]byte' opened: what lies in its cells; the law KeyOrder's walk over it. Conditions: as each theorem says. -/
import Derived.Test.YtpkmfaloncclaaaS16
import Derived.Deep.Slices
import Derived.Deep.Fields
import Derived.ChangeSame
import Derived.ChangeSlices
import Derived.SizedLaws
namespace Go.Proofs.Ytpkmfaloncclaaa.T
open Go Go.RowKit Go.Shelf Go.Proofs.Ytpkmfaloncclaaa.K Go.Proofs.Ytpkmfaloncclaaa.Pure Go.Proofs.YtpkmfaloncclaaaW.PrintWords Go.Proofs.YtpkmfaloncclaaaW.PrintLast Go.Proofs.YtpkmfaloncclaaaW.PrintMore Hand Go.ChangeShapes Go.WideShapes Go.Deep
set_option linter.unusedVariables false
instance : Inhabited RowV := ⟨⟨none, 0, 0, []⟩⟩
theorem weightsAll_in2 {H : Type} {P : Program} {e : TypeId} {d : DataW H} : ∀ {l : List (DataW H)}, d ∈ l → ∀ n ∈ d.weights P e, n ∈ DataW.weightsAll P e l
  | [], h, _, _ => by cases h
  | x :: l, h, n, hn => by
    simp only [DataW.weightsAll, List.mem_append]
    rcases List.mem_cons.1 h with rfl | h
    · exact .inl hn
    · exact .inr (weightsAll_in2 h n hn)
section
variable {H : Type} {enc : TypeId × Value → H} {W : World} {held : Bool}
/-- One row of bytes, by its reading. -/
theorem open_row {n : Nat} {v : Value} {y : DataW H × List MemPlace} (t5 : DataW.trod enc Try.prog W 0 (fun _ => true) held n 22 [v] = some y)
    (hw : ∀ (es es' : List (DataW H)), y.1 = .slice es es' → (es.length + es'.length) * Try.prog.bytesOf 5 ≤ reachBytes) :
    ∃ V : RowV, v = .slice V.A V.m V.cp ∧ Kd.C (Kd.int .u8) W V.A V.m V.l ∧ V.l.length = V.m ∧ ByteL V.l ∧ V.m ≤ V.cp ∧ V.m ≤ 140737488351232 := by
  have hrow : ∃ (A : Option Addr) (len cap : Nat) (zs : List Int), v = .slice A len cap ∧ len ≤ 140737488351232 ∧ ((A = none ∧ len = 0 ∧ cap = 0 ∧ zs = []) ∨ ∃ x, A = some x ∧ len ≤ cap ∧ cap ≤ maxLen ∧ zs.length = cap ∧ (∀ i, i < zs.length → W.cell? (x.add i) = some (.int .u8 (zs.getD i 0))) ∧ ∀ n ∈ zs, (Lit.int .u8 n).wf = true) := by
    rcases open_ints Try.underlying22 Try.underlying5 (by kernel_rfl) t5 with ⟨hcs, _⟩ | ⟨x, l, c, zs, hcs, _, hl, hmx, hz, hx, hcell, hwz⟩
    · simp only [List.cons.injEq, and_true] at hcs
      exact ⟨none, 0, 0, [], hcs, by decide, .inl ⟨rfl, rfl, rfl, rfl⟩⟩
    · simp only [List.cons.injEq, and_true] at hcs
      subst hx
      have hz : zs.length = c := by simpa using hz
      have h9 := hw _ _ rfl
      rw [show Try.prog.bytesOf 5 = 1 from by kernel_rfl, Nat.mul_one] at h9
      have h8 : (lits (H := H) .u8 (zs.take l)).length + (lits (H := H) .u8 (zs.drop l)).length = zs.length := by
        simp [lits]
        omega
      rw [h8] at h9
      have h7 : reachBytes = 140737488351232 := by decide
      exact ⟨some x, l, c, zs, hcs, by omega, .inr ⟨x, rfl, hl, hmx, hz, hcell, hwz⟩⟩
  obtain ⟨A, len, cap, zs, rfl, hm, hr⟩ := hrow
  obtain ⟨l, rfl, hr0, hm0, hw0, hc0⟩ := ReadsInt.ofRowC hr
  exact ⟨⟨A, l.length, cap, l⟩, rfl, Kd.C_of_reads (d := (0 : Int)) (h1 := fun _ => rfl) hr0, rfl, byteL_of hw0, hc0, hm⟩
/-- The whole row of rows. -/
theorem open_rows {A : Option Addr} {len cap : Nat} {d : DataW H} {ps : List MemPlace} {ts : List TypeId} {ds : List (DataW H)} {j : Nat} (hsz : (DataW.weightsEach Try.prog ts ds).all (· ≤ reachBytes) = true) (ht : ts[j]? = some 34) (hd : ds[j]? = some d)
    (h : DataW.Trod enc Try.prog W 0 (fun _ => true) held 34 (.slice A len cap) d ps) : ∃ L : List RowV, L.length = len ∧ len ≤ 140737488351232 ∧ len ≤ cap ∧ RowsAt W A L := by
  obtain ⟨fuel, hf⟩ := h
  rcases open_slice Try.underlying34 hf with ⟨hcs, _⟩ | ⟨a, l, c, m, n, D, Pl, hcs, _, hl, _, hm, hx, hi⟩
  · simp [Value.cells] at hcs
    obtain ⟨rfl, rfl, rfl⟩ := hcs
    exact ⟨[], rfl, by decide, Nat.le_refl _, fun i h => absurd h (by simp)⟩
  · simp [Value.cells] at hcs
    obtain ⟨rfl, rfl, rfl⟩ := hcs
    obtain ⟨hx, _⟩ := Prod.mk.inj hx
    subst hx
    have hm : m = cap := by simpa using hm
    have hz := sized_slice hsz ht hd Try.underlying34
    rw [show Try.prog.bytesOf 22 = 24 from by kernel_rfl, List.length_map, List.length_map, List.length_range, List.length_range] at hz
    have h7 : reachBytes = 140737488351232 := by decide
    have hc1 : Try.prog.cellsOf 22 = 1 := by kernel_rfl
    have hex : ∀ i, i < len → ∃ V : RowV, RowAt W (a.add i) V := fun i hil => by
      obtain ⟨cs', hc, htr⟩ := hi i (by omega)
      rw [hc1, Nat.mul_one] at hc
      obtain ⟨_, hcl, hat⟩ := World.cells?_some hc
      obtain ⟨v, rfl⟩ : ∃ v, cs' = [v] := by
        match cs', hcl with
        | [v], _ => exact ⟨v, rfl⟩
      obtain ⟨V, rfl, h2⟩ := open_row htr (fun es es' he => by
        refine of_decide_eq_true (List.all_eq_true.1 hsz _ (DataW.weights_mem_each ht hd _ ?_))
        have hin : D i ∈ (List.range len).map D := List.mem_map.2 ⟨i, List.mem_range.2 hil, rfl⟩
        simp only [DataW.weights, Try.underlying34, List.mem_cons, List.mem_append]
        refine .inr (.inl (weightsAll_in2 hin _ ?_))
        have he : D i = .slice es es' := he
        rw [he]
        simp [DataW.weights, Try.underlying22])
      have h3 := hat 0 (by decide)
      rw [show (a.add i).add 0 = a.add i from by generalize a.add i = b; unfold Addr.add; simp] at h3
      exact ⟨V, h3, h2⟩
    obtain ⟨F, hF⟩ := choose_lt (α := RowV) hex
    exact ⟨(List.range len).map F, by simp, by omega, hl, fun i h => ⟨a, rfl, by simpa using hF i (by simpa using h)⟩⟩
end
theorem KeyOrder.walk (a0 : Option Addr) (len0 cap0 : Nat) (z0 : List Int) (A1 : Option Addr) (c1 : Nat) (L : List RowV) (a2_0 a2_1 : Int) (w : World) (w0 : (a0 = none ∧ len0 = 0 ∧ cap0 = 0 ∧ z0 = []) ∨ ∃ x, a0 = some x ∧ len0 ≤ cap0 ∧ cap0 ≤ maxLen ∧ z0.length = cap0 ∧ (∀ i, i < z0.length → w.cell? (x.add i) = some (.int .u8 (z0.getD i 0))) ∧ ∀ n ∈ z0, (Lit.int .u8 n).wf = true) (y0 : len0 * 1 ≤ 140737488351232) (hL : RowsAt w A1 L) (hm1 : L.length ≤ 140737488351232) (hc1 : L.length ≤ c1) (w2_0 : (Lit.int .i64 a2_0).wf = true) (w2_1 : (Lit.int .i64 a2_1).wf = true) :
    Calls Try.prog 6 #[.slice a0 len0 cap0, .slice A1 L.length c1, .agg #[.int .i64 a2_0, .int .i64 a2_1]] w fun e w' => e = .returned (.bool true) ∧ Below w.heap.size w w' := by
  obtain ⟨l0, rfl, hr0, hm0, hw0, hc0⟩ := ReadsInt.ofRowC w0
  exact KeyOrder.walk0 a0 cap0 l0.length l0 A1 c1 L a2_0 a2_1 w rfl (by omega) (byteL_of hw0) (Kd.C_of_reads (d := (0 : Int)) (h1 := fun _ => rfl) hr0) hc0 hL hm1 hc1 w2_0 w2_1
end Go.Proofs.Ytpkmfaloncclaaa.T
