/- A parameter '[]api.Secret' opened, of a bulk that is bounded. Conditions: as each lemma says. -/
import Derived.Test.YtbdakgkjomanlaaDoorG4
import Derived.Test.YtbdakgkjomanlaaDoorF10
import Derived.Deep.Slices
import Derived.Deep.Fields
import Derived.ChangeSame
import Derived.ChangeSlices
import Derived.SizedLaws
namespace Go.Proofs.YtbdakgkjomanlaaDoor.Pure
open Go.RowKit Go.Shelf Go.Proofs.YtbdakgkjomanlaaDoor.D Go.Proofs.YtbdakgkjomanlaaDoor.Hand Go.Proofs.YtbdakgkjomanlaaDoorW.PrintWords Go.Proofs.YtbdakgkjomanlaaDoorW.PrintLast Go.Proofs.YtbdakgkjomanlaaDoorW.PrintMore Go.ChangeShapes Go.WideShapes Go.Deep
set_option linter.unusedVariables false
/-- A slice of bytes that came in, as it is read. -/
theorem bytes_in {W : World} {a : Option Addr} {n c : Nat} {zs : List Int} (h : (a = none ∧ n = 0 ∧ c = 0 ∧ zs = []) ∨ ∃ x, a = some x ∧ n ≤ c ∧ c ≤ maxLen ∧ zs.length = c ∧ (∀ i, i < zs.length → W.cell? (x.add i) = some (.int .u8 (zs.getD i 0))) ∧ ∀ z ∈ zs, (Lit.int .u8 z).wf = true) (hn : n * 1 ≤ 140737488351232) :
    ∃ b : List Int, b.length = n ∧ Kd.C (Kd.int .u8) W a n b ∧ n ≤ c ∧ isB b := by
  rcases h with ⟨rfl, rfl, rfl, rfl⟩ | ⟨x, rfl, hl, hm, hz, hcell, hwz⟩
  · exact ⟨[], rfl, Kd.C_nil _ _, Nat.le_refl _, isB_nil⟩
  · have hlen : (zs.take n).length = n := by rw [List.length_take]; omega
    refine ⟨zs.take n, hlen, Kd.C_of_reads (enc := Value.int .u8) (d := 0) (h1 := fun _ => rfl) ⟨hlen, by omega, fun hp => ⟨x, rfl, fun j hj => ?_⟩⟩, hl, fun z hzm => wf8 (hwz z (List.mem_of_mem_take hzm))⟩
    rw [hcell j (by omega)]
    rw [List.getD_eq_getElem?_getD, List.getD_eq_getElem?_getD, List.getElem?_take_of_lt hj]
theorem cell_field2 {w : World} {a : Addr} {i j : Nat} (hj : j ≠ 0) {v : Value} (h : w.cell? (a.add (i * 2 + j)) = some v) : w.cell? ⟨(a.add (i * 2)).block, (a.add (i * 2)).off + j, none⟩ = some v := by
  rw [← Go.Deep.add_add] at h
  have e : (a.add (i * 2)).add j = ⟨(a.add (i * 2)).block, (a.add (i * 2)).off + j, none⟩ := by
    generalize a.add (i * 2) = b
    unfold Addr.add
    rw [if_neg hj]
  rwa [e] at h
instance : Inhabited S33 := ⟨⟨⟨#[]⟩, []⟩⟩
/-- A secret at an address: its two cells, and what they read. -/
def SecIn (W : World) (x : Addr) (s : S33) : Prop := ∃ A1 c1, (W.cell? x = some (.string s.f0) ∧ W.cell? ⟨x.block, x.off + 1, none⟩ = some (.slice A1 s.f1.length c1)) ∧ s.f1.length ≤ c1 ∧ Kd.C (Kd.int .u8) W A1 s.f1.length s.f1 ∧ s.f0.size ≤ 1048576 ∧ s.f1.length ≤ 1048576 ∧ isB s.f1
section
variable {H : Type} {enc : TypeId × Value → H} {W : World} {held : Bool}
theorem one_bulk (d : DataW H) : 1 ≤ Rows.uptoBulk d := by
  cases d with
  | lit l => cases l <;> simp [Rows.uptoBulk]
  | nil => simp [Rows.uptoBulk]
  | ptr d => simp [Rows.uptoBulk]
  | slice elems spare => simp [Rows.uptoBulk]
  | agg parts => simp [Rows.uptoBulk]
  | iface t d => simp [Rows.uptoBulk]
  | map entries => simp [Rows.uptoBulk]
  | held h => simp [Rows.uptoBulk]
theorem part_bulk {d : DataW H} : ∀ {l : List (DataW H)}, d ∈ l → Rows.uptoBulk d ≤ Rows.uptoBulkAll l
  | [], h => by cases h
  | x :: r, h => by
    simp only [Rows.uptoBulkAll]
    rcases List.mem_cons.1 h with rfl | h
    · omega
    · have := part_bulk h; omega
theorem len_bulk : ∀ l : List (DataW H), l.length ≤ Rows.uptoBulkAll l
  | [] => Nat.zero_le _
  | x :: r => by
    have := one_bulk x
    have := len_bulk r
    simp only [Rows.uptoBulkAll, List.length_cons]
    omega
/-- One secret, by its two cells and their readings. -/
theorem open_sec {a : Addr} {i n : Nat} {ys : List (DataW H × List MemPlace)} (hlen : ys.length = 2)
    (hf : ∀ (j : Nat) (f : Field), (#[{ name := "Label", type := 9, offset := 0, embedded := false, tag := "", pkgPath := "", byteOffset := 0 }, { name := "Key", type := 27, offset := 1, embedded := false, tag := "", pkgPath := "", byteOffset := 16 }] : Array Field)[j]? = some f → ∃ (v : Value) (y : DataW H × List MemPlace), W.cell? (a.add (i * 2 + j)) = some v ∧ ys[j]? = some y ∧ DataW.trod enc Tryd.prog W 0 (fun _ => true) held n f.type [v] = some y)
    (hw : Rows.uptoBulkAll (ys.map (·.1)) ≤ 1048576) :
    ∃ s : S33, SecIn W (a.add (i * 2)) s := by
  obtain ⟨v4, x4, c4, y4, t4⟩ := hf 0 _ rfl
  obtain ⟨v5, x5, c5, y5, t5⟩ := hf 1 _ rfl
  have m4 : x4.1 ∈ ys.map (·.1) := List.mem_map.2 ⟨x4, List.mem_of_getElem? y4, rfl⟩
  have m5 : x5.1 ∈ ys.map (·.1) := List.mem_map.2 ⟨x5, List.mem_of_getElem? y5, rfl⟩
  have b4 := part_bulk m4
  have b5 := part_bulk m5
  obtain ⟨s4, e4, hx4, w4⟩ := DataW.trod_string Tryd.underlying9 t4
  simp only [List.cons.injEq, and_true] at e4
  subst e4
  have hs4 : s4.size ≤ 1048576 := by
    rw [hx4] at b4
    have h : Rows.uptoBulk (DataW.lit (H := H) (.string s4.data.toList)) = s4.data.toList.length + 1 := by simp [Rows.uptoBulk]
    rw [h, ← Lib.size_eq] at b4
    omega
  have hrow : ∃ (A : Option Addr) (len cap : Nat) (zs : List Int), v5 = .slice A len cap ∧ len ≤ 1048576 ∧ ((A = none ∧ len = 0 ∧ cap = 0 ∧ zs = []) ∨ ∃ x, A = some x ∧ len ≤ cap ∧ cap ≤ maxLen ∧ zs.length = cap ∧ (∀ i, i < zs.length → W.cell? (x.add i) = some (.int .u8 (zs.getD i 0))) ∧ ∀ n ∈ zs, (Lit.int .u8 n).wf = true) := by
    rcases open_ints Tryd.underlying27 Tryd.underlying5 (by kernel_rfl) t5 with ⟨hcs, _⟩ | ⟨x, l, c, zs, hcs, _, hl, hmx, hz, hx, hcell, hwz⟩
    · simp only [List.cons.injEq, and_true] at hcs
      exact ⟨none, 0, 0, [], hcs, by decide, .inl ⟨rfl, rfl, rfl, rfl⟩⟩
    · simp only [List.cons.injEq, and_true] at hcs
      subst hx
      have hz : zs.length = c := by simpa using hz
      have h8 := len_bulk (lits (H := H) .u8 (zs.take l))
      have h9 : (lits (H := H) .u8 (zs.take l)).length = l := by simp [lits]; omega
      simp only [Rows.uptoBulk] at b5
      exact ⟨some x, l, c, zs, hcs, by omega, .inr ⟨x, rfl, hl, hmx, hz, hcell, hwz⟩⟩
  obtain ⟨A, len, cap, zs, rfl, hm, hr⟩ := hrow
  obtain ⟨l, rfl, hC, hc0, hb⟩ := bytes_in hr (by omega)
  exact ⟨⟨s4, l⟩, A, cap, ⟨by simpa using c4, cell_field2 (by decide) c5⟩, hc0, hC, hs4, hm, hb⟩
/-- The whole row of secrets. -/
theorem open_secs {A : Option Addr} {len cap : Nat} {d : DataW H} {ps : List MemPlace} (hb : Rows.uptoBulk d ≤ 1048576)
    (h : DataW.Trod enc Tryd.prog W 0 (fun _ => true) held 23 (.slice A len cap) d ps) : ∃ L : List S33, L.length = len ∧ len ≤ cap ∧ Kd.C k33 W A len L ∧ Borne L := by
  obtain ⟨fuel, hf⟩ := h
  rcases open_slice Tryd.underlying23 hf with ⟨hcs, _⟩ | ⟨a, l, c, m, n, D, Pl, hcs, _, hl, _, hm, hx, hi⟩
  · simp [Value.cells] at hcs
    obtain ⟨rfl, rfl, rfl⟩ := hcs
    exact ⟨[], rfl, Nat.le_refl _, Kd.C_nil _ _, by decide, fun i h => absurd h (by simp)⟩
  · simp [Value.cells] at hcs
    obtain ⟨rfl, rfl, rfl⟩ := hcs
    obtain ⟨hx, _⟩ := Prod.mk.inj hx
    subst hx
    have hm : m = cap := by simpa using hm
    have hc6 : Tryd.prog.cellsOf 33 = 2 := by kernel_rfl
    simp only [Rows.uptoBulk] at hb
    have hbl := len_bulk ((List.range len).map D)
    rw [List.length_map, List.length_range] at hbl
    have hex : ∀ i, i < len → ∃ s : S33, SecIn W (a.add (i * 2)) s := fun i hil => by
      obtain ⟨cs', hc, htr⟩ := hi i (by omega)
      rw [hc6] at hc
      obtain ⟨ys, n', _, hy, _, hyl, hfl⟩ := DataW.trod_struct Tryd.underlying33 htr
      obtain ⟨_, hcl, hat⟩ := World.cells?_some hc
      simp only [Prod.mk.injEq] at hy
      refine open_sec (enc := enc) (held := held) (n := n') (ys := ys) hyl (fun k f hk => ?_) ?_
      · obtain ⟨ho, h1⟩ := hone_of (P := Tryd.prog) (by kernel_rfl) k f hk
        have hkl := (Array.getElem?_eq_some_iff.1 hk).1
        have hk6 : k < 2 := hkl
        have h2 := hfl k f hk
        rw [ho, h1] at h2
        have h3 : (cs'.drop k).take 1 = [cs'[k]'(by omega)] := by
          rw [List.drop_eq_getElem_cons (by omega)]
          rfl
        rw [h3] at h2
        have hys : ys[k]? = some (ys[k]'(by rw [hyl]; exact hkl)) := List.getElem?_eq_getElem (by rw [hyl]; exact hkl)
        refine ⟨_, _, ?_, hys, h2.trans hys⟩
        rw [← Go.Deep.add_add, hat k hk6, List.getElem?_eq_getElem (by omega)]
      · have hin : D i ∈ (List.range len).map D := List.mem_map.2 ⟨i, List.mem_range.2 hil, rfl⟩
        have h5 := part_bulk hin
        rw [hy.1] at h5
        simp only [Rows.uptoBulk] at h5
        omega
    obtain ⟨F, hF⟩ := choose_lt (α := S33) hex
    have hget : ∀ i, i < len → rd_T33 ((List.range len).map F) (i : Int) = F i := fun i hil => by
      unfold rd_T33
      rw [Int.toNat_natCast, List.getD_eq_getElem?_getD, List.getElem?_map, List.getElem?_range hil]
      rfl
    refine ⟨(List.range len).map F, by simp, hl, ⟨by simp, by omega, fun _ => ⟨a, rfl, fun j p hp => ?_⟩⟩, ⟨by simp; omega, fun i hil => ?_⟩⟩
    · have hjl : j < len := by
        have := (List.getElem?_eq_some_iff.1 hp).1
        simpa using this
      rw [List.getElem?_map, List.getElem?_range hjl] at hp
      obtain rfl : F j = p := by simpa using hp
      obtain ⟨A1, c1, ⟨k1, k2⟩, k3, k4, _⟩ := hF j hjl
      refine ⟨[.string (F j).f0, .slice A1 (F j).f1.length c1], rfl, k33_mk W (F j) k3 k4, fun i u hu => ?_⟩
      match i, hu with
      | 0, hu =>
        obtain rfl : Value.string (F j).f0 = u := by simpa using hu
        exact k1
      | 1, hu =>
        obtain rfl : Value.slice A1 (F j).f1.length c1 = u := by simpa using hu
        rw [show k33.sz = 2 from rfl, ← Go.Deep.add_add]
        generalize a.add (j * 2) = z at k2
        have e : z.add 1 = ⟨z.block, z.off + 1, none⟩ := by unfold Addr.add; rw [if_neg (by decide)]
        rw [e]
        exact k2
    · have hil2 : i < len := by simpa using hil
      rw [hget i hil2]
      obtain ⟨A1, c1, _, _, _, k5⟩ := hF i hil2
      exact k5
end
end Go.Proofs.YtbdakgkjomanlaaDoor.Pure
