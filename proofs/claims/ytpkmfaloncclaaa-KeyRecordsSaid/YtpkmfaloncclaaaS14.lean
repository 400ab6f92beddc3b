/- A parameter '[]api.Act' opened: what lies in its cells. Conditions: as each theorem says. -/
import Derived.Test.YtpkmfaloncclaaaS13
import Derived.Deep.Slices
import Derived.Deep.Fields
import Derived.ChangeSame
import Derived.ChangeSlices
import Derived.SizedLaws
namespace Go.Proofs.Ytpkmfaloncclaaa.T
open Go Go.RowKit Go.Shelf Go.Proofs.Ytpkmfaloncclaaa.K Go.Proofs.Ytpkmfaloncclaaa.Pure Go.Proofs.YtpkmfaloncclaaaW.PrintWords Go.Proofs.YtpkmfaloncclaaaW.PrintLast Go.Proofs.YtpkmfaloncclaaaW.PrintMore Hand Go.ChangeShapes Go.WideShapes Go.Deep
set_option linter.unusedVariables false
instance : Inhabited ActV := ⟨⟨0, 0, 0, 0, ByteArray.empty, none, 0, 0, []⟩⟩
theorem cell_field {w : World} {a : Addr} {i j : Nat} (hj : j ≠ 0) {v : Value} (h : w.cell? (a.add (i * 6 + j)) = some v) : w.cell? ⟨(a.add (i * 6)).block, (a.add (i * 6)).off + j, none⟩ = some v := by
  rw [← Go.Deep.add_add] at h
  have e : (a.add (i * 6)).add j = ⟨(a.add (i * 6)).block, (a.add (i * 6)).off + j, none⟩ := by
    generalize a.add (i * 6) = b
    unfold Addr.add
    rw [if_neg hj]
  rwa [e] at h
theorem weightsAll_in {H : Type} {P : Program} {e : TypeId} {d : DataW H} : ∀ {l : List (DataW H)}, d ∈ l → ∀ n ∈ d.weights P e, n ∈ DataW.weightsAll P e l
  | [], h, _, _ => by cases h
  | x :: l, h, n, hn => by
    simp only [DataW.weightsAll, List.mem_append]
    rcases List.mem_cons.1 h with rfl | h
    · exact .inl hn
    · exact .inr (weightsAll_in h n hn)
section
variable {H : Type} {enc : TypeId × Value → H} {W : World} {held : Bool}
/-- One act, by its six cells and their readings. -/
theorem open_act {a : Addr} {i n : Nat} {ys : List (DataW H × List MemPlace)} (hlen : ys.length = 6)
    (hf : ∀ (j : Nat) (f : Field), (#[{ name := "Op", type := 3, offset := 0, embedded := false, tag := "", pkgPath := "", byteOffset := 0 }, { name := "A", type := 3, offset := 1, embedded := false, tag := "", pkgPath := "", byteOffset := 8 }, { name := "B", type := 3, offset := 2, embedded := false, tag := "", pkgPath := "", byteOffset := 16 }, { name := "C", type := 3, offset := 3, embedded := false, tag := "", pkgPath := "", byteOffset := 24 }, { name := "S", type := 9, offset := 4, embedded := false, tag := "", pkgPath := "", byteOffset := 32 }, { name := "D", type := 22, offset := 5, embedded := false, tag := "", pkgPath := "", byteOffset := 48 }] : Array Field)[j]? = some f → ∃ (v : Value) (y : DataW H × List MemPlace), W.cell? (a.add (i * 6 + j)) = some v ∧ ys[j]? = some y ∧ DataW.trod enc Try.prog W 0 (fun _ => true) held n f.type [v] = some y)
    (hw : ∀ (es es' : List (DataW H)), (ys.map (·.1))[5]? = some (.slice es es') → (es.length + es'.length) * Try.prog.bytesOf 5 ≤ reachBytes) :
    ∃ V : ActV, ActAt W (a.add (i * 6)) V := by
  obtain ⟨v0, x0, c0, _, t0⟩ := hf 0 _ rfl
  obtain ⟨v1, x1, c1, _, t1⟩ := hf 1 _ rfl
  obtain ⟨v2, x2, c2, _, t2⟩ := hf 2 _ rfl
  obtain ⟨v3, x3, c3, _, t3⟩ := hf 3 _ rfl
  obtain ⟨v4, x4, c4, _, t4⟩ := hf 4 _ rfl
  obtain ⟨v5, x5, c5, y5, t5⟩ := hf 5 _ rfl
  obtain ⟨n0, e0, _, w0⟩ := DataW.trod_int Try.underlying3 t0
  obtain ⟨n1, e1, _, w1⟩ := DataW.trod_int Try.underlying3 t1
  obtain ⟨n2, e2, _, w2⟩ := DataW.trod_int Try.underlying3 t2
  obtain ⟨n3, e3, _, w3⟩ := DataW.trod_int Try.underlying3 t3
  obtain ⟨s4, e4, _, w4⟩ := DataW.trod_string Try.underlying9 t4
  simp only [List.cons.injEq, and_true] at e0 e1 e2 e3 e4
  subst e0 e1 e2 e3 e4
  have o := wf64 w0
  have oa := wf64 w1
  have hrow : ∃ (A : Option Addr) (len cap : Nat) (zs : List Int), v5 = .slice A len cap ∧ len ≤ 140737488351232 ∧ ((A = none ∧ len = 0 ∧ cap = 0 ∧ zs = []) ∨ ∃ x, A = some x ∧ len ≤ cap ∧ cap ≤ maxLen ∧ zs.length = cap ∧ (∀ i, i < zs.length → W.cell? (x.add i) = some (.int .u8 (zs.getD i 0))) ∧ ∀ n ∈ zs, (Lit.int .u8 n).wf = true) := by
    rcases open_ints Try.underlying22 Try.underlying5 (by kernel_rfl) t5 with ⟨hcs, _⟩ | ⟨x, l, c, zs, hcs, _, hl, hmx, hz, hx, hcell, hwz⟩
    · simp only [List.cons.injEq, and_true] at hcs
      exact ⟨none, 0, 0, [], hcs, by decide, .inl ⟨rfl, rfl, rfl, rfl⟩⟩
    · simp only [List.cons.injEq, and_true] at hcs
      subst hx
      have hz : zs.length = c := by simpa using hz
      have h9 := hw _ _ (by rw [List.getElem?_map, y5]; rfl)
      rw [show Try.prog.bytesOf 5 = 1 from by kernel_rfl, Nat.mul_one] at h9
      have h8 : (lits (H := H) .u8 (zs.take l)).length + (lits (H := H) .u8 (zs.drop l)).length = zs.length := by
        simp [lits]
        omega
      rw [h8] at h9
      have h7 : reachBytes = 140737488351232 := by decide
      exact ⟨some x, l, c, zs, hcs, by omega, .inr ⟨x, rfl, hl, hmx, hz, hcell, hwz⟩⟩
  obtain ⟨A, len, cap, zs, rfl, hm, hr⟩ := hrow
  obtain ⟨l, rfl, hr0, hm0, hw0, hc0⟩ := ReadsInt.ofRowC hr
  exact ⟨⟨n0, n1, n2, n3, s4, A, l.length, cap, l⟩, ⟨by simpa using c0, cell_field (by decide) c1, cell_field (by decide) c2, cell_field (by decide) c3, cell_field (by decide) c4, cell_field (by decide) c5⟩, Kd.C_of_reads (d := (0 : Int)) (h1 := fun _ => rfl) hr0, rfl, byteL_of hw0, hc0, hm, ⟨o.1, Int.lt_of_le_of_lt o.2 (by decide)⟩, ⟨oa.1, Int.lt_of_le_of_lt oa.2 (by decide)⟩⟩
/-- The whole row of acts. -/
theorem open_acts {A : Option Addr} {len cap : Nat} {d : DataW H} {ps : List MemPlace} {ts : List TypeId} {ds : List (DataW H)} {j : Nat} (hsz : (DataW.weightsEach Try.prog ts ds).all (· ≤ reachBytes) = true) (ht : ts[j]? = some 53) (hd : ds[j]? = some d)
    (h : DataW.Trod enc Try.prog W 0 (fun _ => true) held 53 (.slice A len cap) d ps) : ∃ L : List ActV, L.length = len ∧ len ≤ 140737488351232 ∧ len ≤ cap ∧ ActsAt W A L := by
  obtain ⟨fuel, hf⟩ := h
  rcases open_slice Try.underlying53 hf with ⟨hcs, _⟩ | ⟨a, l, c, m, n, D, Pl, hcs, _, hl, _, hm, hx, hi⟩
  · simp [Value.cells] at hcs
    obtain ⟨rfl, rfl, rfl⟩ := hcs
    exact ⟨[], rfl, by decide, Nat.le_refl _, fun i h => absurd h (by simp)⟩
  · simp [Value.cells] at hcs
    obtain ⟨rfl, rfl, rfl⟩ := hcs
    obtain ⟨hx, _⟩ := Prod.mk.inj hx
    subst hx
    have hm : m = cap := by simpa using hm
    have hz := sized_slice hsz ht hd Try.underlying53
    rw [show Try.prog.bytesOf 55 = 72 from by kernel_rfl, List.length_map, List.length_map, List.length_range, List.length_range] at hz
    have h7 : reachBytes = 140737488351232 := by decide
    have hc6 : Try.prog.cellsOf 55 = 6 := by kernel_rfl
    have hex : ∀ i, i < len → ∃ V : ActV, ActAt W (a.add (i * 6)) V := fun i hil => by
      obtain ⟨cs', hc, htr⟩ := hi i (by omega)
      rw [hc6] at hc
      obtain ⟨ys, n', _, hy, _, hyl, hfl⟩ := DataW.trod_struct Try.underlying55 htr
      obtain ⟨_, hcl, hat⟩ := World.cells?_some hc
      simp only [Prod.mk.injEq] at hy
      refine open_act (enc := enc) (held := held) (n := n') (ys := ys) hyl (fun k f hk => ?_) (fun es es' he => ?_)
      · obtain ⟨ho, h1⟩ := hone_of (P := Try.prog) (by kernel_rfl) k f hk
        have hkl := (Array.getElem?_eq_some_iff.1 hk).1
        have hk6 : k < 6 := hkl
        have h2 := hfl k f hk
        rw [ho, h1] at h2
        have h3 : (cs'.drop k).take 1 = [cs'[k]'(by omega)] := by
          rw [List.drop_eq_getElem_cons (by omega)]
          rfl
        rw [h3] at h2
        have hys : ys[k]? = some (ys[k]'(by rw [hyl]; exact hkl)) := List.getElem?_eq_getElem (by rw [hyl]; exact hkl)
        refine ⟨_, _, ?_, hys, h2.trans hys⟩
        rw [← Go.Deep.add_add, hat k hk6, List.getElem?_eq_getElem (by omega)]
      · refine of_decide_eq_true (List.all_eq_true.1 hsz _ (DataW.weights_mem_each ht hd _ ?_))
        have hin : D i ∈ (List.range len).map D := List.mem_map.2 ⟨i, List.mem_range.2 hil, rfl⟩
        simp only [DataW.weights, Try.underlying53, List.mem_cons, List.mem_append]
        refine .inr (.inl (weightsAll_in hin _ ?_))
        rw [hy.1]
        clear hfl hat hin
        obtain ⟨p0, p1, p2, p3, p4, p5, rfl⟩ : ∃ a b c d e f, ys = [a, b, c, d, e, f] := by
          match ys, hyl with
          | [a, b, c, d, e, f], _ => exact ⟨a, b, c, d, e, f, rfl⟩
        simp only [List.map_cons, List.getElem?_cons_succ, List.getElem?_cons_zero, Option.some.injEq] at he
        simp [DataW.weights, Try.underlying55, DataW.weightsEach, he, Try.underlying22]
    obtain ⟨F, hF⟩ := choose_lt (α := ActV) hex
    exact ⟨(List.range len).map F, by simp, by omega, hl, fun i h => ⟨a, rfl, by simpa using hF i (by simpa using h)⟩⟩
end
theorem KeyRecords.walk (a0 : Option Addr) (len0 cap0 : Nat) (z0 : List Int) (A1 : Option Addr) (c1 : Nat) (L : List ActV) (w : World) (w0 : (a0 = none ∧ len0 = 0 ∧ cap0 = 0 ∧ z0 = []) ∨ ∃ x, a0 = some x ∧ len0 ≤ cap0 ∧ cap0 ≤ maxLen ∧ z0.length = cap0 ∧ (∀ i, i < z0.length → w.cell? (x.add i) = some (.int .u8 (z0.getD i 0))) ∧ ∀ n ∈ z0, (Lit.int .u8 n).wf = true) (y0 : len0 * 1 ≤ 140737488351232) (hL : ActsAt w A1 L) (hm1 : L.length ≤ 140737488351232) (hc1 : L.length ≤ c1) :
    Calls Try.prog 8 #[.slice a0 len0 cap0, .slice A1 L.length c1] w fun e w' => e = .returned (.bool true) ∧ Below w.heap.size w w' := by
  obtain ⟨l0, rfl, hr0, hm0, hw0, hc0⟩ := ReadsInt.ofRowC w0
  exact KeyRecords.walk0 a0 cap0 l0.length l0 A1 c1 L w rfl (by omega) (byteL_of hw0) (Kd.C_of_reads (d := (0 : Int)) (h1 := fun _ => rfl) hr0) hc0 hL hm1 hc1
end Go.Proofs.Ytpkmfaloncclaaa.T
