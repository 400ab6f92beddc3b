/- The law KeyTries walked: both sides' Try answer alike; a parameter '[]api.Secret' opened. Conditions: as each theorem says. -/
import Derived.Test.YtpkmfaloncclaaaS20
import Derived.Deep.Slices
import Derived.Deep.Fields
import Derived.ChangeSame
import Derived.ChangeSlices
import Derived.SizedLaws
import Derived.Deep.QuietTactic
import Derived.BigQuiet
namespace Go.Proofs.Ytpkmfaloncclaaa.T
open Go Go.RowKit Go.Shelf Go.Proofs.Ytpkmfaloncclaaa.K Go.Proofs.Ytpkmfaloncclaaa.Pure Go.Proofs.YtpkmfaloncclaaaW.PrintWords Go.Proofs.YtpkmfaloncclaaaW.PrintLast Go.Proofs.YtpkmfaloncclaaaW.PrintMore Hand Go.ChangeShapes Go.WideShapes Go.Deep
attribute [local go_sem] Oper.semAt_some max2_int min2_int max_two min_two max_three min_three max_four min_four
set_option linter.unusedVariables false
instance : Inhabited SecV := ⟨⟨ByteArray.empty, none, 0, 0, []⟩⟩
theorem wrap64_bd3 (n : Int) : -9223372036854775808 ≤ wrap64 n ∧ wrap64 n < 9223372036854775808 := by
  unfold wrap64
  omega
theorem weightsAll_in3 {H : Type} {P : Program} {e : TypeId} {d : DataW H} : ∀ {l : List (DataW H)}, d ∈ l → ∀ n ∈ d.weights P e, n ∈ DataW.weightsAll P e l
  | [], h, _, _ => by cases h
  | x :: l, h, n, hn => by
    simp only [DataW.weightsAll, List.mem_append]
    rcases List.mem_cons.1 h with rfl | h
    · exact .inl hn
    · exact .inr (weightsAll_in3 h n hn)
theorem SecsAt.below {w w' : World} {A : Option Addr} {L : List SecV} (h : SecsAt w A L) (hb : Below w.heap.size w w') : SecsAt w' A L := fun i hi => by
  obtain ⟨ad, e, ha⟩ := h i hi
  exact ⟨ad, e, ha.below hb⟩
section
variable (A0 : Option Addr) (c0 N : Nat) (L : List SecV) (A1 : Option Addr) (c1 m1 : Nat) (salt : List Int) (A2 : Option Addr) (c2 m2 : Nat) (b : List Int) (w : World) (hN : L.length = N) (hL : SecsAt w A0 L) (hm0 : N ≤ 140737488351232) (hc0 : N ≤ c0) (hl1 : salt.length = m1) (hy1 : ByteL salt) (hr1 : Kd.C (Kd.int .u8) w A1 m1 salt) (hc1 : m1 ≤ c1) (hm1 : m1 ≤ 140737488351232) (hl2 : b.length = m2) (hy2 : ByteL b) (hr2 : Kd.C (Kd.int .u8) w A2 m2 b) (hc2 : m2 ≤ c2) (hm2 : m2 ≤ 140737488351232)
include hN hL hm0 hc0 hl1 hy1 hr1 hc1 hm1 hl2 hy2 hr2 hc2 hm2
theorem kTry.callsN : Calls Try.prog 25 #[.slice A0 N c0, .slice A1 m1 c1, .slice A2 m2 c2] w (TryPost w (tryA L salt b)) := by
  subst hN
  exact kTry.calls A0 c0 L A1 c1 m1 salt A2 c2 m2 b w hL hm0 hc0 hl1 hy1 hr1 hc1 hm1 hl2 hy2 hr2 hc2 hm2
theorem rTry.callsN : Calls Try.prog 26 #[.slice A0 N c0, .slice A1 m1 c1, .slice A2 m2 c2] w (TryPost w (tryA L salt b)) := by
  subst hN
  exact rTry.calls A0 c0 L A1 c1 m1 salt A2 c2 m2 b w hL hm0 hc0 hl1 hy1 hr1 hc1 hm1 hl2 hy2 hr2 hc2 hm2
end
/-- A row of rows of bytes, read: each row's cell and bytes. -/
theorem rowsX_at {w : World} {base : Nat} {e : Nat} {ok : Nat → Prop} {A : Option Addr} {n c : Nat} {xs : List (List Int)} (h : Kd.R rowsX e w base ok (.slice A n c) xs) (hn : xs.length = n) {i : Nat} (hi : i < n) : ∃ ad A' c', A = some ad ∧ w.cell? (ad.add i) = some (.slice A' (xs.getD i []).length c') ∧ Kd.C (Kd.int .u8) w A' (xs.getD i []).length (xs.getD i []) := by
  obtain ⟨A1, c1, e1, _, hr⟩ := Kd.R_reads h
  injection e1 with e2 e3 e4
  subst e2
  obtain ⟨ad, cs, ea, _, ⟨A', c', rfl, _, hC⟩, hcell⟩ := Kd.C_get hr ([] : List Int) (i : Int) (by omega) (by omega)
  rw [Int.toNat_natCast] at hC hcell
  have h0 := hcell 0 _ rfl
  have hz : rowsX.sz = 1 := rfl
  rw [hz, Nat.mul_one, Nat.add_zero] at h0
  exact ⟨ad, A', c', ea, h0, hC⟩
set_option maxHeartbeats 8000000 in
set_option maxRecDepth 100000 in
theorem KeyTries.walk0 (A0 : Option Addr) (c0 : Nat) (L : List SecV) (A1 : Option Addr) (c1 m1 : Nat) (salt : List Int) (A2 : Option Addr) (c2 m2 : Nat) (b : List Int) (w : World) (hL : SecsAt w A0 L) (hm0 : L.length ≤ 140737488351232) (hc0 : L.length ≤ c0) (hl1 : salt.length = m1) (hy1 : ByteL salt) (hr1 : Kd.C (Kd.int .u8) w A1 m1 salt) (hc1 : m1 ≤ c1) (hm1 : m1 ≤ 140737488351232) (hl2 : b.length = m2) (hy2 : ByteL b) (hr2 : Kd.C (Kd.int .u8) w A2 m2 b) (hc2 : m2 ≤ c2) (hm2 : m2 ≤ 140737488351232) :
    Calls Try.prog 7 #[.slice A0 L.length c0, .slice A1 m1 c1, .slice A2 m2 c2] w fun e w' => e = .returned (.bool true) ∧ Below w.heap.size w w' := by
  have HA := Aside0.mk hL
  have HM0 := Aside0.mk hm0
  have HC0 := Aside0.mk hc0
  have HP1 : Aside0 (salt.length = m1 ∧ ByteL salt ∧ m1 ≤ c1 ∧ m1 ≤ 140737488351232) := ⟨hl1, hy1, hc1, hm1⟩
  have HR1 := Aside0.mk hr1
  have HP2 : Aside0 (b.length = m2 ∧ ByteL b ∧ m2 ≤ c2 ∧ m2 ≤ 140737488351232) := ⟨hl2, hy2, hc2, hm2⟩
  have HR2 := Aside0.mk hr2
  obtain ⟨N, hN⟩ : ∃ N, L.length = N := ⟨_, rfl⟩
  have HN := Aside0.mk hN
  rw [hN] at hm0 ⊢
  clear hL hc0 hl1 hy1 hr1 hc1 hl2 hy2 hr2 hc2 hN
  go_enter Try.func7, Try.ntmps7
  go_wp2
  go_loopg [7, 8] N (fun kq v7 v8 W' => ∃ (i : Nat) (n : Int), v8 = .int .i64 i ∧ v7 = .int .i64 n ∧ i + kq = N ∧ (-9223372036854775808 ≤ n ∧ n < 9223372036854775808) ∧ Aside0 (Below w.heap.size w W'))
  case atStart => exact ⟨0, _, rfl, rfl, by omega, by omega, ⟨Below.refl _ _⟩⟩
  case round =>
    obtain ⟨i, n, rfl, rfl, hk, hn, HB⟩ := hrel
    have i0 : (0 : Int) ≤ (i : Int) := by omega
    by_cases hi : i < N
    · obtain ⟨q, rfl⟩ : ∃ q, gk = q + 1 := ⟨gk - 1, by omega⟩
      obtain ⟨ad, eA, ha⟩ := HA.out i (by rw [HN.out]; exact hi)
      subst eA
      have ha := ha.below HB.out
      have y0 := ha.1.1
      have y1 := ha.1.2
      have i1 : (i : Int) < (N : Int) := by omega
      have bm := ha.2.2.2.2.2.1
      have bs := ha.2.2.2.2.2.2
      clear ha
      go_upto_region 5 with (fail)
      go_region
      go_wp2
      go_roundg q
      case measure => omega
      case rel => exact ⟨i + 1, _, by simp, rfl, by omega, wrap64_bd3 _, ⟨below_drew HB.out⟩⟩
    · have ei : i = N := by omega
      subst ei
      have e0 : gk = 0 := by omega
      by_cases q1 : 200000 < n
      · have b1 : decide (200000 < n) = true := decide_eq_true q1
        clear hn
        go_wp2_with (go_at_call 9; (with_reducible refine (wireglasslaw21_known.calls true _ rfl).mono ?_); rintro e wk ⟨rfl, hb⟩; have HBK9 := Aside0.mk hb; clear hb)
        go_ret
        exact ⟨rfl, HB.out.trans (HBK9.out.mono HB.out.size)⟩
      have b1 : decide (200000 < n) = false := decide_eq_false q1
      by_cases q2 : 60 < (i : Int)
      · have b2 : decide (60 < (i : Int)) = true := decide_eq_true q2
        have b3 : decide (60 < i) = true := decide_eq_true (by omega)
        clear hn
        go_wp2_with (go_at_call 9; (with_reducible refine (wireglasslaw21_known.calls true _ rfl).mono ?_); rintro e wk ⟨rfl, hb⟩; have HBK9 := Aside0.mk hb; clear hb)
        go_ret
        exact ⟨rfl, HB.out.trans (HBK9.out.mono HB.out.size)⟩
      have b2 : decide (60 < (i : Int)) = false := decide_eq_false q2
      have b3 : decide (60 < i) = false := decide_eq_false (by omega)
      obtain ⟨R, hR⟩ : ∃ R, tryA L salt b = R := ⟨_, rfl⟩
      have HRR := Aside0.mk hR
      have HLE : Aside0 (i ≤ c0) := ⟨by have := HC0.out; have := HN.out; omega⟩
      clear hn hR
      go_upto_region 12 with (first
        | (go_at_call 25; (with_reducible refine (kTry.callsN A0 c0 i L A1 c1 m1 salt A2 c2 m2 b _ HN.out (HA.out.below HB.out) hm0 HLE.out HP1.out.1 HP1.out.2.1 (Kd.C_below HR1.out HB.out) HP1.out.2.2.1 HP1.out.2.2.2 HP2.out.1 HP2.out.2.1 (Kd.C_below HR2.out HB.out) HP2.out.2.2.1 HP2.out.2.2.2).mono ?_); rw [HRR.out]; rintro e w1 ⟨v1, rfl, ho, hb⟩; obtain ⟨A3, c3, e3⟩ := Kd.R_slice ho; subst e3; have HX1 := Aside0.mk ho; have HB1 := Aside0.mk (HB.out.trans (hb.mono HB.out.size)); clear ho hb)
        | (go_at_call 26; (with_reducible refine (rTry.callsN A0 c0 i L A1 c1 m1 salt A2 c2 m2 b _ HN.out (HA.out.below HB1.out) hm0 HLE.out HP1.out.1 HP1.out.2.1 (Kd.C_below HR1.out HB1.out) HP1.out.2.2.1 HP1.out.2.2.2 HP2.out.1 HP2.out.2.1 (Kd.C_below HR2.out HB1.out) HP2.out.2.2.1 HP2.out.2.2.2).mono ?_); rw [HRR.out]; rintro e w2 ⟨v2, rfl, ho, hb⟩; obtain ⟨A4, c4, e4⟩ := Kd.R_slice ho; subst e4; have HY2 := Aside0.mk ho; have HX2 := Aside0.mk (Kd.R_below HX1.out hb); have HB2 := Aside0.mk (HB1.out.trans (hb.mono HB1.out.size)); clear ho hb))
      obtain ⟨xs, hxs⟩ : ∃ xs, R.2.1 = xs := ⟨_, rfl⟩
      rw [hxs] at HX2 HY2 ⊢
      obtain ⟨M, hM⟩ : ∃ M, xs.length = M := ⟨_, rfl⟩
      have HM := Aside0.mk hM
      rw [hM] at HX2 HY2 ⊢
      clear hM hxs
      have hMX : M ≤ 9223372036854775807 := by
        obtain ⟨A5, c5, e5, _, hr⟩ := Kd.R_reads HX2.out
        have := hr.2.1
        rw [HM.out] at this
        simpa [maxLen] using this
      go_upto_region 13 with (fail)
      go_loopg [15] M (fun kq v15 W' => ∃ j : Nat, v15 = .int .i64 j ∧ j + kq = M ∧ Aside0 (Below w2.heap.size w2 W'))
      case atStart => exact ⟨0, rfl, by omega, ⟨Below.refl _ _⟩⟩
      case round =>
        obtain ⟨j, rfl, hjk, HBJ⟩ := hrel
        have j0 : (0 : Int) ≤ (j : Int) := by omega
        by_cases hj : j < M
        · obtain ⟨q, rfl⟩ : ∃ q, gk = q + 1 := ⟨gk - 1, by omega⟩
          have j1 : (j : Int) < (M : Int) := by omega
          obtain ⟨a3, B3, d3, e3, y3, hC3⟩ := rowsX_at (Kd.R_below HX2.out HBJ.out) HM.out hj
          obtain ⟨a4, B4, d4, e4, y4, hC4⟩ := rowsX_at (Kd.R_below HY2.out HBJ.out) HM.out hj
          subst e3 e4
          obtain ⟨u, hu⟩ : ∃ u, xs.getD j [] = u := ⟨_, rfl⟩
          rw [hu] at y3 y4 hC3 hC4
          clear hu
          have s3 := fun k => Kd.C_string (P := Try.prog) (c := d3) Try.underlying22 Try.underlying5 Try.underlying9 (Kd.C_drewN hC3 k)
          have s4 := fun k => Kd.C_string (P := Try.prog) (c := d4) Try.underlying22 Try.underlying5 Try.underlying9 (Kd.C_drewN hC4 k)
          have s5 := Kd.C_string (P := Try.prog) (c := d3) Try.underlying22 Try.underlying5 Try.underlying9 hC3
          have s6 := Kd.C_string (P := Try.prog) (c := d4) Try.underlying22 Try.underlying5 Try.underlying9 hC4
          clear hC3 hC4
          go_upto_region 15 with (fail)
          go_quiet (fail)
          clear s3 s4 s5 s6 y3 y4
          go_wp2
          go_roundg q
          case measure => omega
          case rel => exact ⟨j + 1, by simp, by omega, ⟨pw_below_drewN HBJ.out _⟩⟩
        · have ej : j = M := by omega
          subst ej
          go_wp2_with (go_at_call 9; (with_reducible refine (wireglasslaw21_known.calls true _ rfl).mono ?_); rintro e wk ⟨rfl, hb⟩; have HBK9 := Aside0.mk hb; clear hb)
          go_ret
          have hb9 := HB2.out.trans (HBJ.out.mono HB2.out.size)
          exact ⟨rfl, hb9.trans (HBK9.out.mono hb9.size)⟩
theorem cell_field2 {w : World} {a : Addr} {i j : Nat} (hj : j ≠ 0) {v : Value} (h : w.cell? (a.add (i * 2 + j)) = some v) : w.cell? ⟨(a.add (i * 2)).block, (a.add (i * 2)).off + j, none⟩ = some v := by
  rw [← Go.Deep.add_add] at h
  have e : (a.add (i * 2)).add j = ⟨(a.add (i * 2)).block, (a.add (i * 2)).off + j, none⟩ := by
    generalize a.add (i * 2) = b
    unfold Addr.add
    rw [if_neg hj]
  rwa [e] at h
section
variable {H : Type} {enc : TypeId × Value → H} {W : World} {held : Bool}
/-- One secret, by its two cells and their readings. -/
theorem open_sec {a : Addr} {i n : Nat} {ys : List (DataW H × List MemPlace)} (hlen : ys.length = 2)
    (hf : ∀ (j : Nat) (f : Field), (#[{ name := "Label", type := 9, offset := 0, embedded := false, tag := "", pkgPath := "", byteOffset := 0 }, { name := "Key", type := 22, offset := 1, embedded := false, tag := "", pkgPath := "", byteOffset := 16 }] : Array Field)[j]? = some f → ∃ (v : Value) (y : DataW H × List MemPlace), W.cell? (a.add (i * 2 + j)) = some v ∧ ys[j]? = some y ∧ DataW.trod enc Try.prog W 0 (fun _ => true) held n f.type [v] = some y)
    (hw : ∀ (es es' : List (DataW H)), (ys.map (·.1))[1]? = some (.slice es es') → (es.length + es'.length) * Try.prog.bytesOf 5 ≤ reachBytes) :
    ∃ V : SecV, SecAt W (a.add (i * 2)) V := by
  obtain ⟨v4, x4, c4, _, t4⟩ := hf 0 _ rfl
  obtain ⟨v5, x5, c5, y5, t5⟩ := hf 1 _ rfl
  obtain ⟨s4, e4, _, w4⟩ := DataW.trod_string Try.underlying9 t4
  simp only [List.cons.injEq, and_true] at e4
  subst e4
  have hrow : ∃ (A : Option Addr) (len cap : Nat) (zs : List Int), v5 = .slice A len cap ∧ len ≤ 140737488351232 ∧ ((A = none ∧ len = 0 ∧ cap = 0 ∧ zs = []) ∨ ∃ x, A = some x ∧ len ≤ cap ∧ cap ≤ maxLen ∧ zs.length = cap ∧ (∀ i, i < zs.length → W.cell? (x.add i) = some (.int .u8 (zs.getD i 0))) ∧ ∀ n ∈ zs, (Lit.int .u8 n).wf = true) := by
    rcases open_ints Try.underlying22 Try.underlying5 (by kernel_rfl) t5 with ⟨hcs, _⟩ | ⟨x, l, c, zs, hcs, _, hl, hmx, hz, hx, hcell, hwz⟩
    · simp only [List.cons.injEq, and_true] at hcs
      exact ⟨none, 0, 0, [], hcs, by decide, .inl ⟨rfl, rfl, rfl, rfl⟩⟩
    · simp only [List.cons.injEq, and_true] at hcs
      subst hx
      have hz : zs.length = c := by simpa using hz
      have h9 := hw _ _ (by rw [List.getElem?_map, y5]; rfl)
      rw [show Try.prog.bytesOf 5 = 1 from by kernel_rfl, Nat.mul_one] at h9
      have h8 : (lits (H := H) .u8 (zs.take l)).length + (lits (H := H) .u8 (zs.drop l)).length = zs.length := by
        simp [lits]
        omega
      rw [h8] at h9
      have h7 : reachBytes = 140737488351232 := by decide
      exact ⟨some x, l, c, zs, hcs, by omega, .inr ⟨x, rfl, hl, hmx, hz, hcell, hwz⟩⟩
  obtain ⟨A, len, cap, zs, rfl, hm, hr⟩ := hrow
  obtain ⟨l, rfl, hr0, hm0, hw0, hc0⟩ := ReadsInt.ofRowC hr
  exact ⟨⟨s4, A, l.length, cap, l⟩, ⟨by simpa using c4, cell_field2 (by decide) c5⟩, Kd.C_of_reads (d := (0 : Int)) (h1 := fun _ => rfl) hr0, rfl, byteL_of hw0, hc0, hm, by simpa [maxLen] using w4⟩
/-- The whole row of secrets. -/
theorem open_secs {A : Option Addr} {len cap : Nat} {d : DataW H} {ps : List MemPlace} {ts : List TypeId} {ds : List (DataW H)} {j : Nat} (hsz : (DataW.weightsEach Try.prog ts ds).all (· ≤ reachBytes) = true) (ht : ts[j]? = some 47) (hd : ds[j]? = some d)
    (h : DataW.Trod enc Try.prog W 0 (fun _ => true) held 47 (.slice A len cap) d ps) : ∃ L : List SecV, L.length = len ∧ len ≤ 140737488351232 ∧ len ≤ cap ∧ SecsAt W A L := by
  obtain ⟨fuel, hf⟩ := h
  rcases open_slice Try.underlying47 hf with ⟨hcs, _⟩ | ⟨a, l, c, m, n, D, Pl, hcs, _, hl, _, hm, hx, hi⟩
  · simp [Value.cells] at hcs
    obtain ⟨rfl, rfl, rfl⟩ := hcs
    exact ⟨[], rfl, by decide, Nat.le_refl _, fun i h => absurd h (by simp)⟩
  · simp [Value.cells] at hcs
    obtain ⟨rfl, rfl, rfl⟩ := hcs
    obtain ⟨hx, _⟩ := Prod.mk.inj hx
    subst hx
    have hm : m = cap := by simpa using hm
    have hz := sized_slice hsz ht hd Try.underlying47
    rw [show Try.prog.bytesOf 49 = 40 from by kernel_rfl, List.length_map, List.length_map, List.length_range, List.length_range] at hz
    have h7 : reachBytes = 140737488351232 := by decide
    have hc6 : Try.prog.cellsOf 49 = 2 := by kernel_rfl
    have hex : ∀ i, i < len → ∃ V : SecV, SecAt W (a.add (i * 2)) V := fun i hil => by
      obtain ⟨cs', hc, htr⟩ := hi i (by omega)
      rw [hc6] at hc
      obtain ⟨ys, n', _, hy, _, hyl, hfl⟩ := DataW.trod_struct Try.underlying49 htr
      obtain ⟨_, hcl, hat⟩ := World.cells?_some hc
      simp only [Prod.mk.injEq] at hy
      refine open_sec (enc := enc) (held := held) (n := n') (ys := ys) hyl (fun k f hk => ?_) (fun es es' he => ?_)
      · obtain ⟨ho, h1⟩ := hone_of (P := Try.prog) (by kernel_rfl) k f hk
        have hkl := (Array.getElem?_eq_some_iff.1 hk).1
        have hk6 : k < 2 := hkl
        have h2 := hfl k f hk
        rw [ho, h1] at h2
        have h3 : (cs'.drop k).take 1 = [cs'[k]'(by omega)] := by
          rw [List.drop_eq_getElem_cons (by omega)]
          rfl
        rw [h3] at h2
        have hys : ys[k]? = some (ys[k]'(by rw [hyl]; exact hkl)) := List.getElem?_eq_getElem (by rw [hyl]; exact hkl)
        refine ⟨_, _, ?_, hys, h2.trans hys⟩
        rw [← Go.Deep.add_add, hat k hk6, List.getElem?_eq_getElem (by omega)]
      · refine of_decide_eq_true (List.all_eq_true.1 hsz _ (DataW.weights_mem_each ht hd _ ?_))
        have hin : D i ∈ (List.range len).map D := List.mem_map.2 ⟨i, List.mem_range.2 hil, rfl⟩
        simp only [DataW.weights, Try.underlying47, List.mem_cons, List.mem_append]
        refine .inr (.inl (weightsAll_in3 hin _ ?_))
        rw [hy.1]
        clear hfl hat hin
        obtain ⟨p0, p1, rfl⟩ : ∃ a b, ys = [a, b] := by
          match ys, hyl with
          | [a, b], _ => exact ⟨a, b, rfl⟩
        simp only [List.map_cons, List.getElem?_cons_succ, List.getElem?_cons_zero, Option.some.injEq] at he
        simp [DataW.weights, Try.underlying49, DataW.weightsEach, he, Try.underlying22]
    obtain ⟨F, hF⟩ := choose_lt (α := SecV) hex
    exact ⟨(List.range len).map F, by simp, by omega, hl, fun i h => ⟨a, rfl, by simpa using hF i (by simpa using h)⟩⟩
end
def IsRowX (w : World) (a : Option Addr) (len cap : Nat) (zs : List Int) : Prop := (a = none ∧ len = 0 ∧ cap = 0 ∧ zs = []) ∨ ∃ x, a = some x ∧ len ≤ cap ∧ cap ≤ maxLen ∧ zs.length = cap ∧ (∀ i, i < zs.length → w.cell? (x.add i) = some (.int .u8 (zs.getD i 0))) ∧ ∀ n ∈ zs, (Lit.int .u8 n).wf = true
theorem KeyTries.walk (A0 : Option Addr) (c0 : Nat) (L : List SecV) (a1 : Option Addr) (len1 cap1 : Nat) (z1 : List Int) (a2 : Option Addr) (len2 cap2 : Nat) (z2 : List Int) (w : World) (hL : SecsAt w A0 L) (hm0 : L.length ≤ 140737488351232) (hc0 : L.length ≤ c0) (w1 : IsRowX w a1 len1 cap1 z1) (y1 : len1 * 1 ≤ 140737488351232) (w2 : IsRowX w a2 len2 cap2 z2) (y2 : len2 * 1 ≤ 140737488351232) :
    Calls Try.prog 7 #[.slice A0 L.length c0, .slice a1 len1 cap1, .slice a2 len2 cap2] w fun e w' => e = .returned (.bool true) ∧ Below w.heap.size w w' := by
  obtain ⟨l1, rfl, hr1, hm1, hw1, hc1⟩ := ReadsInt.ofRowC w1
  obtain ⟨l2, rfl, hr2, hm2, hw2, hc2⟩ := ReadsInt.ofRowC w2
  exact KeyTries.walk0 A0 c0 L a1 cap1 l1.length l1 a2 cap2 l2.length l2 w hL hm0 hc0 rfl (byteL_of hw1) (Kd.C_of_reads (d := (0 : Int)) (h1 := fun _ => rfl) hr1) hc1 (by omega) rfl (byteL_of hw2) (Kd.C_of_reads (d := (0 : Int)) (h1 := fun _ => rfl) hr2) hc2 (by omega)
end Go.Proofs.Ytpkmfaloncclaaa.T
