/- The wrap for a row that lists variables; a parameter '[]api.Act' opened; the library's table. Conditions: as each theorem says. -/
import Derived.Test.YtbloalfgbpgepaaDoorC7
import Derived.Stop.LaidErr
namespace Go.Proofs.YtbloalfgbpgepaaDoor.T
open Go Go.RowKit Go.Shelf Go.Proofs.YtbloalfgbpgepaaDoor.C Go.Proofs.YtbloalfgbpgepaaDoorW.PrintWords Go.Proofs.YtbloalfgbpgepaaDoorW.PrintLast Go.Proofs.YtbloalfgbpgepaaDoorW.PrintMore Hand Go.ChangeShapes Go.WideShapes Go.ChangeAt Go.Deep
set_option linter.unusedVariables false
set_option linter.unusedSimpArgs false
theorem wrap_laid {H : Type} {enc : TypeId × Value → H} {a : Assume} {C : Checked} {os : Os} {f : FuncId} {fn : Func} {s : ChangeSpec} {conds : List PathCond} {apart fresh handsOn again : Bool} {X : World → Array Value → Prop}
    (hX : ∀ (w w' : World) (args : Array Value), w.heap = w'.heap → X w args → X w' args)
    (own : ownKnob C.prog.godebug = none) (started : os.Started) (noInit : C.prog.inits.idxOf? f = none) (hfn : C.prog.funcs[f]? = some fn)
    (witness : ∃ (w : World) (tape : Tape) (i : Input), w.os = os ∧ (w.forCall tape i).Shaped C.prog ∧ i.vars = [] ∧ Input.okWide C.prog (w.forCall tape i) .any w.heap.size f i ∧
      ((s.pre enc C.prog fn conds apart (w.forCall tape i).memory i.args ∧ X (w.forCall tape i).memory i.args) ∧ sizedMet enc C.prog fn (OpenSpec.ofChange s) apart (w.forCall tape i).memory i.args) ∧ a.holds C.prog (lone (Frame.enter C.prog f i.args .normal) [] (w.forCall tape i)))
    (contract : ∀ (W : World) (base : Nat) (args : Array Value) (ds gs : List (DataW H)) (before : List MemPlace),
      (∀ (j : Nat) t v, fn.params[j]? = some t → args[j]? = some v → Value.okWide C.prog W .any base t v) →
      DataW.Whole enc C.prog fn.params.toList s.vars apart W args.toList ds gs before →
      (DataW.weightsEach C.prog (fn.params.toList ++ s.plain.varTypes C.prog) (ds ++ gs)).all (· ≤ reachBytes) = true → W.ShapedOpen C.prog → X W args →
      Calls C.prog f args W fun e W' => ∃ v, e = .returned v ∧ s.post enc C.prog fn apart fresh handsOn again W args v W') :
    ReturnsInHanded a C os f .any (fun w args => (s.pre enc C.prog fn conds apart w args ∧ X w args) ∧ sizedMet enc C.prog fn (OpenSpec.ofChange s) apart w args) (s.post enc C.prog fn apart fresh handsOn again) := by
  refine returnsInHanded_of_calls own started noInit witness ?_
  intro w tape i _ hsh _ hok hpre _
  obtain ⟨_, _, _, fn', hfn', _, _, _, _, hval⟩ := hok
  obtain rfl : fn' = fn := Option.some.inj (hfn'.symm.trans hfn)
  obtain ⟨⟨⟨ds, gs, before, hw, _⟩, hx⟩, hz⟩ := hpre
  refine (contract (w.forCall tape i) w.heap.size i.args ds gs before hval (DataW.Whole.of_heap (w' := w.forCall tape i) (by rfl) hw) (hz.weights hw) hsh (hX _ _ _ (by rfl) hx)).mono fun e W' ⟨v, he, hp⟩ => ?_
  subst he
  exact ChangeSpec.post_blind hp
/-- The library's table, out of the row's list. -/
theorem tab_of {W : World} (h : laidMetH Tryd.prog Rows.voiceCallsRow.laid W) : Lib.TabIs Tryd.prog W "internal/strconv.uint64pow10" .u64 Lib.pow10Tab := by
  rw [MakeChecks.laidMetH_plain _ _ _ (by kernel_rfl)] at h
  have h1 := laidMet.tail (laidMet.tail h)
  have e : (Rows.laid_internal_strconv_uint64pow10 : DataW Unit) = Lib.tabData .u64 Lib.pow10Tab := by kernel_rfl
  exact Lib.tabIs_of_head (g := (Tryd.prog.globalNamed "internal/strconv.uint64pow10").getD 0) (n := 20) (by kernel_rfl) (by kernel_rfl) Tryd.underlying80 Tryd.underlying65 (by kernel_rfl) (by kernel_rfl) (e ▸ h1)
theorem weightsAll_in {H : Type} {P : Program} {e : TypeId} {d : DataW H} : ∀ {l : List (DataW H)}, d ∈ l → ∀ n ∈ d.weights P e, n ∈ DataW.weightsAll P e l
  | [], h, _, _ => by cases h
  | x :: l, h, n, hn => by
    simp only [DataW.weightsAll, List.mem_append]
    rcases List.mem_cons.1 h with rfl | h
    · exact .inl hn
    · exact .inr (weightsAll_in h n hn)
instance : Inhabited TA := ⟨⟨0, 0, 0, 0, ByteArray.empty, []⟩⟩
def ActIn (w : World) (x : Addr) (i : Nat) (v : TA) : Prop := ∃ cs, cs.length = 6 ∧ k25.K w v cs ∧ ∀ j u, cs[j]? = some u → w.cell? (x.add (i * 6 + j)) = some u
section
variable {H : Type} {enc : TypeId × Value → H} {W : World} {held : Bool}
/-- One act, by its six cells and their readings. -/
theorem open_act {a : Addr} {i n : Nat} {ys : List (DataW H × List MemPlace)} (hlen : ys.length = 6)
    (hf : ∀ (j : Nat) (f : Field), (#[{ name := "Op", type := 3, offset := 0, embedded := false, tag := "", pkgPath := "", byteOffset := 0 }, { name := "A", type := 3, offset := 1, embedded := false, tag := "", pkgPath := "", byteOffset := 8 }, { name := "B", type := 3, offset := 2, embedded := false, tag := "", pkgPath := "", byteOffset := 16 }, { name := "C", type := 3, offset := 3, embedded := false, tag := "", pkgPath := "", byteOffset := 24 }, { name := "S", type := 9, offset := 4, embedded := false, tag := "", pkgPath := "", byteOffset := 32 }, { name := "D", type := 23, offset := 5, embedded := false, tag := "", pkgPath := "", byteOffset := 48 }] : Array Field)[j]? = some f → ∃ (v : Value) (y : DataW H × List MemPlace), W.cell? (a.add (i * 6 + j)) = some v ∧ ys[j]? = some y ∧ DataW.trod enc Tryd.prog W 0 (fun _ => true) held n f.type [v] = some y)
    (hw : ∀ (es es' : List (DataW H)), (ys.map (·.1))[5]? = some (.slice es es') → (es.length + es'.length) * Tryd.prog.bytesOf 5 ≤ reachBytes)
    (hs : ∀ bs, (ys.map (·.1))[4]? = some (.lit (.string bs)) → bs.length ≤ reachBytes) :
    ∃ V : TA, ActIn W a i V ∧ V.f4.size ≤ 140737488351232 := by
  obtain ⟨v0, x0, c0, _, t0⟩ := hf 0 _ rfl
  obtain ⟨v1, x1, c1, _, t1⟩ := hf 1 _ rfl
  obtain ⟨v2, x2, c2, _, t2⟩ := hf 2 _ rfl
  obtain ⟨v3, x3, c3, _, t3⟩ := hf 3 _ rfl
  obtain ⟨v4, x4, c4, y4, t4⟩ := hf 4 _ rfl
  obtain ⟨v5, x5, c5, y5, t5⟩ := hf 5 _ rfl
  obtain ⟨n0, e0, _, w0⟩ := DataW.trod_int Tryd.underlying3 t0
  obtain ⟨n1, e1, _, w1⟩ := DataW.trod_int Tryd.underlying3 t1
  obtain ⟨n2, e2, _, w2⟩ := DataW.trod_int Tryd.underlying3 t2
  obtain ⟨n3, e3, _, w3⟩ := DataW.trod_int Tryd.underlying3 t3
  obtain ⟨s4, e4, g4, w4⟩ := DataW.trod_string Tryd.underlying9 t4
  simp only [List.cons.injEq, and_true] at e0 e1 e2 e3 e4
  subst e0 e1 e2 e3 e4
  have hs4 : s4.size ≤ 140737488351232 := by
    have h1 := hs s4.data.toList (by rw [List.getElem?_map, y4, g4]; rfl)
    have h7 : reachBytes = 140737488351232 := by decide
    rw [h7] at h1
    have h2 : s4.data.toList.length = s4.size := Array.length_toList
    omega
  have hrow : ∃ (A : Option Addr) (len cap : Nat) (zs : List Int), v5 = .slice A len cap ∧ len ≤ 140737488351232 ∧ ((A = none ∧ len = 0 ∧ cap = 0 ∧ zs = []) ∨ ∃ x, A = some x ∧ len ≤ cap ∧ cap ≤ maxLen ∧ zs.length = cap ∧ (∀ i, i < zs.length → W.cell? (x.add i) = some (.int .u8 (zs.getD i 0))) ∧ ∀ n ∈ zs, (Lit.int .u8 n).wf = true) := by
    rcases open_ints Tryd.underlying23 Tryd.underlying5 (by kernel_rfl) t5 with ⟨hcs, _⟩ | ⟨x, l, c, zs, hcs, _, hl, hmx, hz, hx, hcell, hwz⟩
    · simp only [List.cons.injEq, and_true] at hcs
      exact ⟨none, 0, 0, [], hcs, by decide, .inl ⟨rfl, rfl, rfl, rfl⟩⟩
    · simp only [List.cons.injEq, and_true] at hcs
      subst hx
      have hz : zs.length = c := by simpa using hz
      have h9 := hw _ _ (by rw [List.getElem?_map, y5]; rfl)
      rw [show Tryd.prog.bytesOf 5 = 1 from by kernel_rfl, Nat.mul_one] at h9
      have h8 : (lits (H := H) .u8 (zs.take l)).length + (lits (H := H) .u8 (zs.drop l)).length = zs.length := by
        simp [lits]
        omega
      rw [h8] at h9
      have h7 : reachBytes = 140737488351232 := by decide
      exact ⟨some x, l, c, zs, hcs, by omega, .inr ⟨x, rfl, hl, hmx, hz, hcell, hwz⟩⟩
  obtain ⟨A, len, cap, zs, rfl, hm, hr⟩ := hrow
  obtain ⟨l, rfl, hr0, hm0, hw0, hc0⟩ := ReadsInt.ofRowC hr
  refine ⟨⟨n0, n1, n2, n3, s4, l⟩, ⟨[.int .i64 n0, .int .i64 n1, .int .i64 n2, .int .i64 n3, .string s4, .slice A l.length cap], rfl, k25_mk W ⟨n0, n1, n2, n3, s4, l⟩ hc0 (Kd.C_of_reads (d := (0 : Int)) (h1 := fun _ => rfl) hr0), fun j u hu => ?_⟩, hs4⟩
  match j, hu with
  | 0, hu => cases hu; exact c0
  | 1, hu => cases hu; exact c1
  | 2, hu => cases hu; exact c2
  | 3, hu => cases hu; exact c3
  | 4, hu => cases hu; exact c4
  | 5, hu => cases hu; exact c5
  | j + 6, hu => simp at hu
/-- The whole row of acts. -/
theorem open_acts {A : Option Addr} {len cap : Nat} {d : DataW H} {ps : List MemPlace} {ts : List TypeId} {ds : List (DataW H)} {j : Nat} (hsz : (DataW.weightsEach Tryd.prog ts ds).all (· ≤ reachBytes) = true) (ht : ts[j]? = some 22) (hd : ds[j]? = some d)
    (h : DataW.Trod enc Tryd.prog W 0 (fun _ => true) held 22 (.slice A len cap) d ps) : ∃ L : List TA, L.length = len ∧ len ≤ 140737488351232 ∧ len ≤ cap ∧ (Kd.C k25 W A L.length L ∧ ∀ V ∈ L, V.f4.size ≤ 140737488351232) := by
  obtain ⟨fuel, hf⟩ := h
  rcases open_slice Tryd.underlying22 hf with ⟨hcs, _⟩ | ⟨a, l, c, m, n, D, Pl, hcs, _, hl, _, hm, hx, hi⟩
  · simp [Value.cells] at hcs
    obtain ⟨rfl, rfl, rfl⟩ := hcs
    exact ⟨[], rfl, by decide, Nat.le_refl _, ⟨rfl, Nat.zero_le _, fun h => absurd h (Nat.lt_irrefl 0)⟩, fun V h => absurd h (by simp)⟩
  · simp [Value.cells] at hcs
    obtain ⟨rfl, rfl, rfl⟩ := hcs
    obtain ⟨hx, _⟩ := Prod.mk.inj hx
    subst hx
    have hm : m = cap := by simpa using hm
    have hz := sized_slice hsz ht hd Tryd.underlying22
    rw [show Tryd.prog.bytesOf 25 = 72 from by kernel_rfl, List.length_map, List.length_map, List.length_range, List.length_range] at hz
    have h7 : reachBytes = 140737488351232 := by decide
    have hc6 : Tryd.prog.cellsOf 25 = 6 := by kernel_rfl
    have hex : ∀ i, i < len → ∃ V : TA, ActIn W a i V ∧ V.f4.size ≤ 140737488351232 := fun i hil => by
      obtain ⟨cs', hc, htr⟩ := hi i (by omega)
      rw [hc6] at hc
      obtain ⟨ys, n', _, hy, _, hyl, hfl⟩ := DataW.trod_struct Tryd.underlying25 htr
      obtain ⟨_, hcl, hat⟩ := World.cells?_some hc
      simp only [Prod.mk.injEq] at hy
      refine open_act (enc := enc) (held := held) (n := n') (ys := ys) hyl (fun k f hk => ?_) (fun es es' he => ?_) (fun bs he => ?_)
      · obtain ⟨ho, h1⟩ := hone_of (P := Tryd.prog) (by kernel_rfl) k f hk
        have hkl := (Array.getElem?_eq_some_iff.1 hk).1
        have hk6 : k < 6 := hkl
        have h2 := hfl k f hk
        rw [ho, h1] at h2
        have h3 : (cs'.drop k).take 1 = [cs'[k]'(by omega)] := by
          rw [List.drop_eq_getElem_cons (by omega)]
          rfl
        rw [h3] at h2
        have hys : ys[k]? = some (ys[k]'(by rw [hyl]; exact hkl)) := List.getElem?_eq_getElem (by rw [hyl]; exact hkl)
        refine ⟨_, _, ?_, hys, h2.trans hys⟩
        rw [← Go.Deep.add_add, hat k hk6, List.getElem?_eq_getElem (by omega)]
      · refine of_decide_eq_true (List.all_eq_true.1 hsz _ (DataW.weights_mem_each ht hd _ ?_))
        have hin : D i ∈ (List.range len).map D := List.mem_map.2 ⟨i, List.mem_range.2 hil, rfl⟩
        simp only [DataW.weights, Tryd.underlying22, List.mem_cons, List.mem_append]
        refine .inr (.inl (weightsAll_in hin _ ?_))
        rw [hy.1]
        clear hfl hat hin
        obtain ⟨p0, p1, p2, p3, p4, p5, rfl⟩ : ∃ a b c d e f, ys = [a, b, c, d, e, f] := by
          match ys, hyl with
          | [a, b, c, d, e, f], _ => exact ⟨a, b, c, d, e, f, rfl⟩
        simp only [List.map_cons, List.getElem?_cons_succ, List.getElem?_cons_zero, Option.some.injEq] at he
        first | (simp [DataW.weights, Tryd.underlying25, DataW.weightsEach, he, Tryd.underlying23]; done) | (simp [DataW.weights, Tryd.underlying25, DataW.weightsEach, he]; done)
      · refine of_decide_eq_true (List.all_eq_true.1 hsz _ (DataW.weights_mem_each ht hd _ ?_))
        have hin : D i ∈ (List.range len).map D := List.mem_map.2 ⟨i, List.mem_range.2 hil, rfl⟩
        simp only [DataW.weights, Tryd.underlying22, List.mem_cons, List.mem_append]
        refine .inr (.inl (weightsAll_in hin _ ?_))
        rw [hy.1]
        clear hfl hat hin
        obtain ⟨p0, p1, p2, p3, p4, p5, rfl⟩ : ∃ a b c d e f, ys = [a, b, c, d, e, f] := by
          match ys, hyl with
          | [a, b, c, d, e, f], _ => exact ⟨a, b, c, d, e, f, rfl⟩
        simp only [List.map_cons, List.getElem?_cons_succ, List.getElem?_cons_zero, Option.some.injEq] at he
        first | (simp [DataW.weights, Tryd.underlying25, DataW.weightsEach, he, Tryd.underlying23]; done) | (simp [DataW.weights, Tryd.underlying25, DataW.weightsEach, he]; done)
    obtain ⟨F, hF⟩ := choose_lt (α := TA) hex
    refine ⟨(List.range len).map F, by simp, by omega, hl, ⟨rfl, ?_, fun _ => ⟨a, rfl, fun j p hj => ?_⟩⟩, fun V hV => ?_⟩
    · rw [List.length_map, List.length_range]
      omega
    · obtain ⟨hjl, hp⟩ := List.getElem?_eq_some_iff.1 hj
      have hjl' : j < len := by simpa using hjl
      have e : F j = p := by rw [← hp]; simp
      obtain ⟨cs, h1, h2, h3⟩ := (hF j hjl').1
      rw [e] at h2
      exact ⟨cs, h1, h2, h3⟩
    · obtain ⟨i, hi2, rfl⟩ := List.mem_map.1 hV
      exact (hF i (List.mem_range.1 hi2)).2
end
end Go.Proofs.YtbloalfgbpgepaaDoor.T
