/- Files of sound, in plain Lean: the two readers tell the same, what was written is read as it was, and the levels. Conditions: the numbers are those of their kinds. -/
import Derived.Test.YtphkkdjinehhoaaGx6
import Derived.Test.YtphkkdjinehhoaaGx7
import Derived.Test.YtphkkdjinehhoaaGx8
import Derived.Test.YtphkkdjinehhoaaV2
namespace Go.Proofs.Ytphkkdjinehhoaa.Pure
open Go.RowKit Go.Proofs.Ytphkkdjinehhoaa.G Go.Proofs.YtphkkdjinehhoaaW.PrintWords Go.Proofs.YtphkkdjinehhoaaW.PrintLast Go.Proofs.YtphkkdjinehhoaaW.PrintMore Hand
set_option linter.unusedVariables false

theorem toList_loop (s : ByteArray) : ∀ (d i : Nat) (r : List UInt8), i + d = s.size → (ByteArray.toList.loop s i r).length = r.length + d
  | 0, i, r, h => by
    unfold ByteArray.toList.loop
    rw [if_neg (by omega), List.length_reverse]; rfl
  | d + 1, i, r, h => by
    unfold ByteArray.toList.loop
    rw [if_pos (by omega), toList_loop s d (i + 1) _ (by omega), List.length_cons]
    omega
theorem strOf_length (l : List Int) : (strOfNums l).toList.length = l.length := by
  have hs : (strOfNums l).size = l.length := by simp [strOfNums, ByteArray.size]
  have := toList_loop (strOfNums l) l.length 0 [] (by omega)
  rw [List.length_nil, Nat.zero_add] at this
  exact this
theorem sams_length (b : List Int) : ∀ m i, (sams b m i).length = m
  | 0, _ => rfl
  | m + 1, i => by rw [sams, List.length_cons, sams_length b m]
theorem wData_length : ∀ l : List Int, (wData l).length = 2 * l.length
  | [] => rfl
  | x :: r => by rw [wData_cons, List.length_append, wLe_length, wData_length r, List.length_cons]; omega
theorem wFull_length (l : List Int) (r : Int) : (wFull l r).length = 44 + 2 * l.length := by unfold wFull; rw [List.length_append, wHead_length, wData_length]
theorem fin_odd (b out : List Int) (h : b.length ≠ 44 + 2 * out.length) : fin b out = ([], 0, 11) := by
  unfold fin voice_Wave.f
  by_cases c1 : wOk out (rat b) = true
  · rw [if_pos c1]
    by_cases c2 : out.length ≤ 80000
    · rw [if_pos c2]
      simp only [if_true]
      rw [if_neg]
      intro e
      have := congrArg List.length e
      rw [strOf_length, strOf_length, wFull_length] at this
      exact h this.symm
    · rw [if_neg c2]; rfl
  · rw [if_neg c1]; rfl
theorem unwaves (b : List Int) (hb : Bytes b) : ∃ r, Ev (fun k => voice_Unwave.f k b) r ∧ Ev (fun k => wireglassref25_Unwave.f k b) r ∧ r.1.length ≤ 9223372036854775807 := by
  unfold voice_Unwave.f wireglassref25_Unwave.f
  by_cases c1 : (b.length : Int) > 160044
  · exact ⟨_, Ev.if_pos c1 (Ev.now _), Ev.if_pos c1 (Ev.now _), by simp⟩
  by_cases c2 : (b.length : Int) < 44
  · exact ⟨([], 0, 11), Ev.if_neg c1 (Ev.if_pos c2 (Ev.step (f := fun _ => some ([], 0, 11)) (fun k => by rw [voice_Unwave.j0, if_pos rfl]) (Ev.now _))), Ev.if_neg c1 (Ev.if_pos c2 (Ev.now _)), by simp⟩
  have hr := ref_rat b hb (by omega)
  have e2 : ∀ m, 44 + 2 * m = b.length ∨ 44 + 2 * m + 1 = b.length → Ev (fun k => if 24 < (b.length : Int) then (if 25 < (b.length : Int) then (if 26 < (b.length : Int) then (if 27 < (b.length : Int) then (wireglassref25_Unwave.l0 k b (wrap64 ((wrap64 ((wrap64 ((wrap64 (rd b 24)) + (wrap64 (256 * (wrap64 (rd b 25)))))) + (wrap64 (65536 * (wrap64 (rd b 26)))))) + (wrap64 (16777216 * (wrap64 (rd b 27)))))) ([] : List Int) 44) else (none)) else (none)) else (none)) else (none)) (fin b (sams b m 44)) := fun m hm =>
    Ev.if_pos (by omega) (Ev.if_pos (by omega) (Ev.if_pos (by omega) (Ev.if_pos (by omega) (by rw [hr]; exact ref_un b hb (by omega) m 44 [] hm (by simp)))))
  by_cases par : b.length % 2 = 0
  · obtain ⟨m, hm⟩ : ∃ m, 44 + 2 * m = b.length := ⟨(b.length - 44) / 2, by omega⟩
    refine ⟨fin b (sams b m 44), ?_, Ev.if_neg c1 (Ev.if_neg c2 (e2 m (.inl hm))), ?_⟩
    · have hp : (((b.length : Int) % 2) != 0) = false := by
        have : (b.length : Int) % 2 = 0 := by omega
        rw [this]; rfl
      rw [hp]
      exact Ev.if_neg c1 (Ev.if_neg c2 (Ev.step (f := fun k => voice_Unwave.l0 k b [] ((44 : Nat) : Int)) (fun k => by rw [voice_Unwave.j0, if_neg (by decide)]; rfl) (voice_un b hb (by omega) (by omega) m 44 [] hm (by simp))))
    · unfold fin
      obtain ⟨w, e, hw⟩ := wave_some (sams b m 44) (rat b)
      rw [hw]
      simp only
      split
      · split
        · simp only [sams_length]; omega
        · simp
      · simp
  · obtain ⟨m, hm⟩ : ∃ m, 44 + 2 * m + 1 = b.length := ⟨(b.length - 44) / 2, by omega⟩
    refine ⟨([], 0, 11), ?_, ?_, by simp⟩
    · have hp : (((b.length : Int) % 2) != 0) = true := by
        have : (b.length : Int) % 2 = 1 := by omega
        rw [this]; rfl
      rw [hp]
      exact Ev.if_neg c1 (Ev.if_neg c2 (Ev.step (f := fun _ => some ([], 0, 11)) (fun k => by rw [voice_Unwave.j0, if_pos rfl]) (Ev.now _)))
    · have := e2 m (.inr hm)
      rw [fin_odd b (sams b m 44) (by rw [sams_length]; omega)] at this
      exact Ev.if_neg c1 (Ev.if_neg c2 this)
theorem bytes_of_wf {b : List Int} (h : ∀ x ∈ b, (Lit.int .u8 x).wf = true) : Bytes b := fun x hx => wf8 (h x hx)
/-! What was written is read as it was. -/
theorem wLe_bytes : ∀ (n : Nat) (v : Int), Bytes (wLe n v)
  | 0, _ => fun x hx => by simp [wLe] at hx
  | n + 1, v => fun x hx => by
    rw [wLe, List.mem_cons] at hx
    rcases hx with rfl | hx
    · omega
    · exact wLe_bytes n _ x hx
theorem bytes_append {a b : List Int} (ha : Bytes a) (hb : Bytes b) : Bytes (a ++ b) := fun x hx => by
  rcases List.mem_append.1 hx with h | h
  · exact ha x h
  · exact hb x h
theorem wData_bytes : ∀ l : List Int, Bytes (wData l)
  | [] => fun x hx => by simp [wData] at hx
  | x :: r => by rw [wData_cons]; exact bytes_append (wLe_bytes _ _) (wData_bytes r)
theorem lit_bytes {l : List Int} (h : l.all (fun x => decide (0 ≤ x ∧ x ≤ 255)) = true) : Bytes l := fun x hx => of_decide_eq_true (List.all_eq_true.1 h x hx)
theorem wHead_bytes (n r : Int) : Bytes (wHead n r) := by
  unfold wHead
  refine bytes_append (bytes_append (bytes_append (bytes_append (bytes_append (bytes_append (bytes_append (bytes_append (bytes_append (bytes_append (bytes_append (lit_bytes (by decide)) (wLe_bytes _ _)) (lit_bytes (by decide))) (wLe_bytes _ _)) (wLe_bytes _ _)) (wLe_bytes _ _)) (wLe_bytes _ _)) (wLe_bytes _ _)) (wLe_bytes _ _)) (wLe_bytes _ _)) (lit_bytes (by decide))) (wLe_bytes _ _)
theorem rat_full (l : List Int) (r : Int) (h0 : 0 ≤ r) (h1 : r ≤ 1000000) : rat (wFull l r) = r := by
  have e24 : rd (wFull l r) 24 = r % 256 := rfl
  have e25 : rd (wFull l r) 25 = r / 256 % 256 := rfl
  have e26 : rd (wFull l r) 26 = r / 256 / 256 % 256 := rfl
  have e27 : rd (wFull l r) 27 = r / 256 / 256 / 256 % 256 := rfl
  unfold rat
  rw [e24, e25, e26, e27]
  omega
theorem sm_written (pre rest : List Int) (x : Int) (hx : vIn x = true) : sm (pre ++ (wLe 2 x ++ rest)) pre.length = x := by
  have hx' := of_decide_eq_true hx
  have e0 : rd (pre ++ (wLe 2 x ++ rest)) (pre.length : Int) = x % 256 := rd_mid pre _ _
  have e1 : rd (pre ++ (wLe 2 x ++ rest)) ((pre.length + 1 : Nat) : Int) = x / 256 % 256 := by
    have := rd_mid (pre ++ [x % 256]) rest (x / 256 % 256)
    rw [List.length_append, List.length_singleton, List.append_assoc] at this
    exact this
  unfold sm
  rw [e0, e1]
  split <;> omega
theorem sams_written : ∀ (l pre : List Int), l.all vIn = true → sams (pre ++ wData l) l.length pre.length = l
  | [], _, _ => rfl
  | x :: r, pre, h => by
    rw [List.all_cons, Bool.and_eq_true] at h
    have ih := sams_written r (pre ++ wLe 2 x) h.2
    rw [List.length_append, wLe_length, List.append_assoc] at ih
    rw [List.length_cons, sams, wData_cons, sm_written pre _ x h.1, ih]
theorem unwave_written (l : List Int) (r : Int) (h : wOk l r = true) (hl : l.length ≤ 80000) : Ev (fun k => voice_Unwave.f k (wFull l r)) (l, r, 0) := by
  have h' := h
  unfold wOk at h'
  simp only [Bool.and_eq_true, decide_eq_true_eq] at h'
  obtain ⟨ha, h1, h2⟩ := h'
  have hlen := wFull_length l r
  have hb : Bytes (wFull l r) := bytes_append (wHead_bytes _ _) (wData_bytes l)
  have hs : sams (wFull l r) l.length 44 = l := by
    have := sams_written l (wHead l.length r) ha
    rw [wHead_length] at this
    exact this
  have hf : fin (wFull l r) (sams (wFull l r) l.length 44) = (l, r, 0) := by
    rw [hs]
    unfold fin
    rw [rat_full l r (by omega) h2]
    unfold voice_Wave.f
    rw [if_pos h, if_pos hl]
    simp
  unfold voice_Unwave.f
  have hp : (((((wFull l r).length : Int)) % 2) != 0) = false := by
    have : ((wFull l r).length : Int) % 2 = 0 := by rw [hlen]; omega
    rw [this]; rfl
  rw [hp]
  refine Ev.if_neg (by rw [hlen]; omega) (Ev.if_neg (by rw [hlen]; omega) (Ev.step (f := fun k => voice_Unwave.l0 k (wFull l r) [] ((44 : Nat) : Int)) (fun k => by rw [voice_Unwave.j0, if_neg (by decide)]; rfl) ?_))
  have := voice_un (wFull l r) hb (by rw [hlen]; omega) (by rw [hlen]; omega) l.length 44 [] (by rw [hlen]) (by simp)
  rw [List.nil_append, hf] at this
  exact this
/-! The levels. -/
def mag (x : Int) : Int := max x (-x)
def lvTop : List Int → Int → Int
  | [], t => t
  | x :: r, t => lvTop r (max t (mag x))
def lvSum : List Int → Int → Int
  | [], s => s
  | x :: r, s => lvSum r (s + mag x)
theorem mx_max (a b : Int) : mx a b = max a b := by unfold mx; omega
theorem vin_rd {l : List Int} (h : l.all vIn = true) {i : Nat} (hi : i < l.length) : -32768 ≤ rd l (i : Int) ∧ rd l (i : Int) ≤ 32767 := by
  rw [rd_at hi]; exact of_decide_eq_true (List.all_eq_true.1 h _ (List.getElem_mem hi))
theorem levels_from (l : List Int) (hv : l.all vIn = true) (hl : l.length ≤ 80000) : ∀ (d i : Nat) (t s : Int), i + d = l.length → 0 ≤ s → s ≤ 32768 * i →
    ∃ r, Ev (fun k => voice_Level.l0 k l t s l (l.length : Int) (i : Int)) r ∧ Ev (fun k => wireglassref25_Level.l0 k l t s (i : Int)) r ∨ l = [] := by
  intro d
  induction d with
  | zero =>
    intro i t s h h0 h1
    by_cases hn : l = []
    · exact ⟨(0, 0, 0), .inr hn⟩
    · have hp : 0 < l.length := List.length_pos_iff.2 hn
      have hm : mx 1 (l.length : Int) = (l.length : Int) := by rw [mx_max]; omega
      refine ⟨(t, wrap64 (Int.tdiv s (l.length : Int)), 0), .inl ⟨?_, ?_⟩⟩
      · exact Ev.step (f := fun _ => some (t, wrap64 (Int.tdiv s (l.length : Int)), 0)) (fun k => by rw [voice_Level.l0, if_neg (by omega), hm, if_neg (by omega)]) (Ev.now _)
      · exact Ev.step (f := fun _ => some (t, wrap64 (Int.tdiv s (l.length : Int)), 0)) (fun k => by rw [wireglassref25_Level.l0, if_neg (by omega), if_neg (by omega)]) (Ev.now _)
  | succ d ih =>
    intro i t s h h0 h1
    have hx := vin_rd hv (i := i) (by omega)
    obtain ⟨x, ex⟩ : ∃ x, rd l (i : Int) = x := ⟨_, rfl⟩
    rw [ex] at hx
    have wn : wrap64 (-x) = -x := w64 (by omega) (by omega)
    have hm0 : 0 ≤ mag x ∧ mag x ≤ 32768 := by unfold mag; omega
    have wi : wrap64 ((i : Int) + 1) = ((i + 1 : Nat) : Int) := by rw [w64 (by omega) (by omega)]; rfl
    have em : mx x (-x) = mag x := mx_max _ _
    have et : mx (mx t x) (-x) = max t (mag x) := by rw [mx_max, mx_max]; unfold mag; omega
    have ws : wrap64 (s + mag x) = s + mag x := w64 (by omega) (by omega)
    obtain ⟨r, hr⟩ := ih (i + 1) (max t (mag x)) (s + mag x) (by omega) (by omega) (by omega)
    rcases hr with ⟨e1, e2⟩ | hn
    · refine ⟨r, .inl ⟨?_, ?_⟩⟩
      · exact Ev.step (f := fun k => voice_Level.l0 k l (max t (mag x)) (s + mag x) l (l.length : Int) ((i + 1 : Nat) : Int)) (fun k => by rw [voice_Level.l0, if_pos (by omega), if_pos (by omega), if_pos (by omega), ex, wn, em, et, ws, wi]) e1
      · exact Ev.step (f := fun k => wireglassref25_Level.l0 k l (max t (mag x)) (s + mag x) ((i + 1 : Nat) : Int)) (fun k => by rw [wireglassref25_Level.l0, if_pos (by omega), if_pos (by omega), ex, wn, em, mx_max, ws, wi]) e2
    · exact ⟨r, .inr hn⟩
theorem samples_ev (l : List Int) (hl : l.length ≤ 9223372036854775807) : Ev (fun k => wireglassref25_samples.f k l) (l.all vIn) := Ev.of (fun k => wireglassref25_samples.mono l k) (wireglassref25_samples.vin hl rfl)
theorem levels (l : List Int) (hm : l.length ≤ 9223372036854775807) : ∃ r, Ev (fun k => voice_Level.f k l) r ∧ Ev (fun k => wireglassref25_Level.f k l) r := by
  have es := samples_ev l hm
  unfold voice_Level.f wireglassref25_Level.f voice_areSamples.f
  simp only [Option.bind_some]
  by_cases hv : l.all vIn = true
  · rw [hv] at es
    by_cases hl : (l.length : Int) > 80000
    · exact ⟨(0, 0, 3), Ev.if_pos hv (Ev.if_pos hl (Ev.now _)), Ev.bind es (Ev.if_pos rfl (Ev.if_pos hl (Ev.now _)))⟩
    · obtain ⟨r, hr⟩ := levels_from l hv (by omega) l.length 0 0 0 (by omega) (by omega) (by omega)
      rcases hr with ⟨e1, e2⟩ | hn
      · exact ⟨r, Ev.if_pos hv (Ev.if_neg hl e1), Ev.bind es (Ev.if_pos rfl (Ev.if_neg hl e2))⟩
      · subst hn
        refine ⟨(0, 0, 0), Ev.if_pos hv (Ev.if_neg hl (Ev.of (fun k => (voice_Level.mono_l k) _ _ _ _ _ _) (k := 1) (by decide +kernel))), Ev.bind es (Ev.if_pos rfl (Ev.if_neg hl (Ev.of (fun k => (wireglassref25_Level.mono_l k) _ _ _ _) (k := 1) (by decide +kernel))))⟩
  · have hf : l.all vIn = false := by simpa using hv
    rw [hf] at es
    exact ⟨(0, 0, 1), Ev.if_neg hv (Ev.now _), Ev.bind es (Ev.if_neg (by decide) (Ev.now _))⟩
end Go.Proofs.Ytphkkdjinehhoaa.Pure
