/- Frames of sound, in plain Lean: what the program's frame and the reference's come to. Conditions: the samples and the state are in their bounds. -/
import Derived.Test.YtphkkdjinehhoaaGx2
import Derived.Test.YtphkkdjinehhoaaGx4
import Derived.Test.YtphkkdjinehhoaaGx5
import Derived.Test.YtphkkdjinehhoaaHPure
namespace Go.Proofs.Ytphkkdjinehhoaa.Pure
open Go.RowKit Go.Proofs.Ytphkkdjinehhoaa.G Go.Proofs.YtphkkdjinehhoaaW.PrintWords Go.Proofs.YtphkkdjinehhoaaW.PrintLast Hand
set_option linter.unusedVariables false

theorem known_ev : Ev (fun k => wireglasslaw25_known.f k) true := Ev.of (fun k => wireglasslaw25_known.mono k) (k := 20) (by decide +kernel)
theorem same_from (l : List Int) (hl : l.length ≤ 9223372036854775807) : ∀ (d i : Nat), i + d = l.length → Ev (fun k => wireglassref02_SameInts.l0 k l l (i : Int)) true
  | 0, i, h => Ev.step (f := fun _ => some true) (fun k => by rw [wireglassref02_SameInts.l0, if_neg (by omega)]) (Ev.now _)
  | d + 1, i, h => Ev.step (f := fun k => wireglassref02_SameInts.l0 k l l ((i + 1 : Nat) : Int)) (fun k => by
      rw [wireglassref02_SameInts.l0, if_pos (by omega), if_pos (by omega), if_pos (by omega), if_pos rfl, w64 (by omega) (by omega)]; rfl) (same_from l hl d (i + 1) (by omega))
theorem same_ev (l : List Int) (hl : l.length ≤ 9223372036854775807) : Ev (fun k => wireglassref02_SameInts.f k l l) true := by
  unfold wireglassref02_SameInts.f
  exact Ev.if_pos rfl (same_from l hl l.length 0 (by omega))
theorem put2_ev (v : Int) (h0 : 0 ≤ v) (h1 : v < 65536) : Ev (fun k => wide_Put.f k [] v 2 false) [v / 256, v % 256] := by
  refine Ev.of (fun k => wide_Put.mono _ _ _ _ k) (k := 3) ?_
  have e0 : wrap64 (wrap64 (2 - 1) - 0) = 1 := by decide +kernel
  have e1 : wrap64 (wrap64 (2 - 1) - 1) = 0 := by decide +kernel
  have e2 : wrap64 (8 * 1) = 8 := by decide +kernel
  have e3 : wrap64 (8 * 0) = 0 := by decide +kernel
  have e4 : wrap64 (0 + 1) = 1 := by decide +kernel
  have e5 : wrap64 (1 + 1) = 2 := by decide +kernel
  have s8 : shr .u64 v 8 = v / 256 := shr_eq (n := 8) (by decide)
  have s0 : shr .u64 v 0 = v := by have := shr_eq (k := .u64) (x := v) (n := 0) (by decide); rw [Int.pow_zero, Int.ediv_one] at this; exact this
  unfold wide_Put.f
  rw [wide_Put.l0, if_pos (by decide), if_neg (by decide), e0, e2, if_pos (by decide), if_pos (by decide), s8, e4]
  rw [wide_Put.l0, if_pos (by decide), if_neg (by decide), e1, e3, if_pos (by decide), if_pos (by simp), s0, e5]
  rw [wide_Put.l0, if_neg (by decide)]
  rw [show v / 256 % 256 = v / 256 by omega]; rfl
/-- What stands before the next sample: behind an even place the last byte has its low half free. -/
def Half (x5 : List Int) (i : Nat) : Prop := x5.length ≤ 4 + i ∧ (i % 2 = 1 → ∃ pre c, x5 = pre ++ [16 * c] ∧ 0 ≤ c ∧ c < 16)
theorem or_half : ∀ c d : Fin 16, Go.bits .or .u8 (16 * (c.val : Int)) ((d.val : Int) % 256) = 16 * (c.val : Int) + d.val := by decide +kernel
theorem frames_from (l : List Int) (hl : l.length ≤ 255) (hv : l.all vIn = true) : ∀ (d i : Nat) (x5 : List Int) (p k : Int), i + d = l.length → Half x5 i → -32768 ≤ p → p ≤ 32767 → 0 ≤ k → k ≤ 88 →
    ∃ r, Ev (fun n => voice_Coder_frame.l0 n x5 l (l.length : Int) (i : Int) p k (vStepsL 89)) r ∧ Ev (fun n => wireglassref25_Coder_frame.l0 n x5 l (i : Int) p k (vStepsL 89)) r
  | 0, i, x5, p, k, h, hh, hp0, hp1, hk0, hk1 => ⟨(x5, p, k),
      Ev.step (f := fun _ => some (x5, p, k)) (fun n => by rw [voice_Coder_frame.l0, if_neg (by omega)]) (Ev.now _),
      Ev.step (f := fun _ => some (x5, p, k)) (fun n => by rw [wireglassref25_Coder_frame.l0, if_neg (by omega)]) (Ev.now _)⟩
  | d + 1, i, x5, p, k, h, hh, hp0, hp1, hk0, hk1 => by
    have hx : vIn (rd l (i : Int)) = true := by
      rw [rd_at (by omega : i < l.length)]; exact List.all_eq_true.1 hv _ (List.getElem_mem _)
    obtain ⟨⟨hc0, hc1⟩, ⟨hq0, hq1⟩, ho0, ho1⟩ := vCoded_bd p k (rd l (i : Int))
    have ev1 : Ev (fun n => voice_Coder_Code.f n p k (vStepsL 89) (rd l (i : Int))) ((vCoded p k (rd l (i : Int))).1, 0, (vCoded p k (rd l (i : Int))).2) := Ev.of (fun n => voice_Coder_Code.mono _ _ _ _ n) (vCode_is hk0 hk1 hp0 hp1 hx)
    have ev2 : Ev (fun n => wireglassref25_Coder_code.f n p k (vStepsL 89) (rd l (i : Int))) (vCoded p k (rd l (i : Int))) := Ev.of (fun n => wireglassref25_Coder_code.mono _ _ _ _ n) (rCode_is hk0 hk1 hp0 hp1 hx)
    obtain ⟨⟨c, q, o⟩, hco⟩ : ∃ z, vCoded p k (rd l (i : Int)) = z := ⟨_, rfl⟩
    rw [hco] at hc0 hc1 hq0 hq1 ho0 ho1 ev1 ev2
    simp only at hc0 hc1 hq0 hq1 ho0 ho1
    have hi1 : wrap64 ((i : Int) + 1) = ((i + 1 : Nat) : Int) := by rw [w64 (by omega) (by omega)]; rfl
    have htm : Int.tmod (i : Int) 2 = ((i % 2 : Nat) : Int) := by rw [tmod_pos (by omega)]; omega
    have w1 : wrap64 (c * 16) % 256 = 16 * c := by rw [w64 (by omega) (by omega)]; omega
    have w2 : wrap64 (16 * c) % 256 = 16 * c := by rw [w64 (by omega) (by omega)]; omega
    by_cases par : i % 2 = 0
    · have hh2 : Half (x5 ++ [16 * c]) (i + 1) := ⟨by rw [List.length_append, List.length_singleton]; have := hh.1; omega, fun _ => ⟨x5, c, rfl, hc0, hc1⟩⟩
      obtain ⟨r, e1, e2⟩ := frames_from l hl hv d (i + 1) (x5 ++ [16 * c]) q o (by omega) hh2 hq0 hq1 ho0 ho1
      have hlen : x5.length < 140737488355328 := by have := hh.1; omega
      refine ⟨r, ?_, ?_⟩
      · refine Ev.step (f := fun n => (voice_Coder_Code.f n p k (vStepsL 89) (rd l (i : Int))).bind fun bt => if (Int.tmod (i : Int) 2) = 0 then (if x5.length < 140737488355328 then (voice_Coder_frame.l0 n (x5 ++ [(wrap64 (bt.1 * 16)) % 256]) l (l.length : Int) (wrap64 ((i : Int) + 1)) bt.2.2.1 bt.2.2.2 (vStepsL 89)) else (none)) else (if 0 ≤ (wrap64 ((x5.length : Int) - 1)) then (if (wrap64 ((x5.length : Int) - 1)) < (x5.length : Int) then (voice_Coder_frame.l0 n (x5.set ((wrap64 ((x5.length : Int) - 1)) : Int).toNat (Go.bits .or .u8 (rd x5 (wrap64 ((x5.length : Int) - 1))) ((bt.1) % 256))) l (l.length : Int) (wrap64 ((i : Int) + 1)) bt.2.2.1 bt.2.2.2 (vStepsL 89)) else (none)) else (none))) (fun n => by rw [voice_Coder_frame.l0, if_pos (by omega), if_pos (by omega), if_pos (by omega)]) ?_
        refine Ev.bind ev1 ?_
        simp only
        exact Ev.if_pos (by rw [htm]; omega) (Ev.if_pos hlen (by rw [w1, hi1]; exact e1))
      · refine Ev.step (f := fun n => (wireglassref25_Coder_code.f n p k (vStepsL 89) (rd l (i : Int))).bind fun t => if (Int.tmod (i : Int) 2) = 0 then (if x5.length < 140737488355328 then (wireglassref25_Coder_frame.l0 n (x5 ++ [(wrap64 (16 * t.1)) % 256]) l (wrap64 ((i : Int) + 1)) t.2.1 t.2.2 (vStepsL 89)) else (none)) else (if 0 < x5.length then (wireglassref25_Coder_frame.l0 n (x5.set (x5.length - 1) ((rd x5 (x5.length - 1 : Nat) + t.1 % 256) % 256)) l (wrap64 ((i : Int) + 1)) t.2.1 t.2.2 (vStepsL 89)) else (none))) (fun n => by rw [wireglassref25_Coder_frame.l0, if_pos (by omega), if_pos (by omega)]) ?_
        refine Ev.bind ev2 ?_
        simp only
        exact Ev.if_pos (by rw [htm]; omega) (Ev.if_pos hlen (by rw [w2, hi1]; exact e2))
    · obtain ⟨pre, a, rfl, ha0, ha1⟩ := hh.2 (by omega)
      have hh2 : Half (pre ++ [16 * a + c]) (i + 1) := ⟨by have := hh.1; simp only [List.length_append, List.length_singleton] at this ⊢; omega, fun h => by omega⟩
      obtain ⟨r, e1, e2⟩ := frames_from l hl hv d (i + 1) (pre ++ [16 * a + c]) q o (by omega) hh2 hq0 hq1 ho0 ho1
      have hlp : (pre ++ [16 * a]).length = pre.length + 1 := by rw [List.length_append]; rfl
      have hle := hh.1
      rw [hlp] at hle
      have hwl : wrap64 (((pre ++ [16 * a]).length : Int) - 1) = (pre.length : Int) := by rw [hlp, w64 (by omega) (by omega)]; omega
      have hrd : rd (pre ++ [16 * a]) (pre.length : Int) = 16 * a := rd_mid _ _ _
      have hset : ∀ z : Int, (pre ++ [16 * a]).set pre.length z = pre ++ [z] := fun z => by simp
      have hor : Go.bits .or .u8 (16 * a) (c % 256) = 16 * a + c := by
        have := or_half ⟨a.toNat, by omega⟩ ⟨c.toNat, by omega⟩
        simp only at this
        rwa [show ((a.toNat : Nat) : Int) = a by omega, show ((c.toNat : Nat) : Int) = c by omega] at this
      have hadd : (16 * a + c % 256) % 256 = 16 * a + c := by omega
      refine ⟨r, ?_, ?_⟩
      · refine Ev.step (f := fun n => (voice_Coder_Code.f n p k (vStepsL 89) (rd l (i : Int))).bind fun bt => if (Int.tmod (i : Int) 2) = 0 then (if (pre ++ [16 * a]).length < 140737488355328 then (voice_Coder_frame.l0 n ((pre ++ [16 * a]) ++ [(wrap64 (bt.1 * 16)) % 256]) l (l.length : Int) (wrap64 ((i : Int) + 1)) bt.2.2.1 bt.2.2.2 (vStepsL 89)) else (none)) else (if 0 ≤ (pre.length : Int) then (if (pre.length : Int) < ((pre ++ [16 * a]).length : Int) then (voice_Coder_frame.l0 n ((pre ++ [16 * a]).set (pre.length : Int).toNat (Go.bits .or .u8 (rd (pre ++ [16 * a]) (pre.length : Int)) ((bt.1) % 256))) l (l.length : Int) (wrap64 ((i : Int) + 1)) bt.2.2.1 bt.2.2.2 (vStepsL 89)) else (none)) else (none))) (fun n => by rw [voice_Coder_frame.l0, if_pos (by omega), if_pos (by omega), if_pos (by omega), hwl]) ?_
        refine Ev.bind ev1 ?_
        simp only
        refine Ev.if_neg (by rw [htm]; omega) (Ev.if_pos (by omega) (Ev.if_pos (by rw [hlp]; omega) ?_))
        rw [Int.toNat_natCast, hrd, hor, hset, hi1]
        exact e1
      · refine Ev.step (f := fun n => (wireglassref25_Coder_code.f n p k (vStepsL 89) (rd l (i : Int))).bind fun t => if (Int.tmod (i : Int) 2) = 0 then (if (pre ++ [16 * a]).length < 140737488355328 then (wireglassref25_Coder_frame.l0 n ((pre ++ [16 * a]) ++ [(wrap64 (16 * t.1)) % 256]) l (wrap64 ((i : Int) + 1)) t.2.1 t.2.2 (vStepsL 89)) else (none)) else (if 0 < (pre ++ [16 * a]).length then (wireglassref25_Coder_frame.l0 n ((pre ++ [16 * a]).set ((pre ++ [16 * a]).length - 1) ((rd (pre ++ [16 * a]) ((pre ++ [16 * a]).length - 1 : Nat) + t.1 % 256) % 256)) l (wrap64 ((i : Int) + 1)) t.2.1 t.2.2 (vStepsL 89)) else (none))) (fun n => by rw [wireglassref25_Coder_frame.l0, if_pos (by omega), if_pos (by omega)]) ?_
        refine Ev.bind ev2 ?_
        simp only
        refine Ev.if_neg (by rw [htm]; omega) (Ev.if_pos (by rw [hlp]; omega) ?_)
        rw [hlp, Nat.add_sub_cancel, hrd, hadd, hset, hi1]
        exact e2
theorem frames_ev (l : List Int) (p k : Int) (h : vFrameOk l p k = true) :
    ∃ r, Ev (fun n => voice_Coder_frame.f n p k (vStepsL 89) l) r ∧ Ev (fun n => wireglassref25_Coder_frame.f n p k (vStepsL 89) l) r := by
  unfold vFrameOk at h
  simp only [Bool.and_eq_true, decide_eq_true_eq] at h
  obtain ⟨⟨⟨⟨h1, h2⟩, ha⟩, hp⟩, h3, h4⟩ := h
  have hp' := of_decide_eq_true hp
  obtain ⟨r, e1, e2⟩ := frames_from l h2 ha l.length 0 [(p / 256) % 256, p % 256, k % 256, (l.length : Int) % 256] p k (by omega) ⟨by simp, fun h => by omega⟩ hp'.1 hp'.2 h3 h4
  refine ⟨r, ?_, e2⟩
  have hv : IntKind.u64.wrap (IntKind.u16.wrap p) = p % 65536 := by
    have h16 : IntKind.u16.wrap p = p % 65536 := by simp [IntKind.wrap, IntKind.signed, IntKind.bits]
    rw [h16, IntKind.wrap_u64]; omega
  unfold voice_Coder_frame.f
  rw [hv]
  refine Ev.bind (put2_ev (p % 65536) (by omega) (by omega)) ?_
  refine Ev.bind (Ev.now _) ?_
  refine Ev.if_pos (by simp) ?_
  rw [show p % 65536 / 256 = p / 256 % 256 by omega, show p % 65536 % 256 = p % 256 by omega]
  exact e1
theorem frame_ev (l : List Int) (p k : Int) : ∃ r, Ev (fun n => voice_Frame.f n l p k) r ∧ Ev (fun n => wireglassref25_Frame.f n l p k) r := by
  unfold voice_Frame.f wireglassref25_Frame.f
  by_cases h : vFrameOk l p k = true
  · obtain ⟨r, ⟨K1, e1⟩, ⟨K2, e2⟩⟩ := frames_ev l p k h
    exact ⟨(r.1, 0), ⟨K1, fun n hn => by have := e1 n hn; simp only [if_pos h] at this ⊢; rw [this]; rfl⟩, ⟨K2, fun n hn => by have := e2 n hn; simp only [if_pos h] at this ⊢; rw [this]; rfl⟩⟩
  · exact ⟨([], 1), Ev.if_neg h (Ev.now _), Ev.if_neg h (Ev.now _)⟩
theorem vUn_length (b : List Int) : ∀ (m : Nat) (i p k : Int), (vUn b m i p k).length = m
  | 0, _, _, _ => rfl
  | m + 1, i, p, k => by rw [vUn, List.length_cons, vUn_length b m]
theorem unframe_some {b : List Int} (h : ∀ x ∈ b, (Lit.int .u8 x).wf = true) : ∃ r, voice_Unframe.f b = some r ∧ wireglassref25_Unframe.f b = some r ∧ r.1.length ≤ 9223372036854775807 := by
  have hy : vBytes b = true := List.all_eq_true.2 fun x hx => decide_eq_true (wf8 (h x hx))
  unfold wireglassref25_Unframe.f voice_Unframe.f
  rw [if_pos hy]
  by_cases c : vUnOk b = true
  · rw [if_pos c]
    refine ⟨_, rfl, rfl, ?_⟩
    rw [vUn_length]
    obtain ⟨c1, _⟩ := of_decide_eq_true c
    have := vBytes_rd hy 3 (by omega) (by omega)
    omega
  · rw [if_neg c]; exact ⟨_, rfl, rfl, by simp⟩
end Go.Proofs.Ytphkkdjinehhoaa.Pure
