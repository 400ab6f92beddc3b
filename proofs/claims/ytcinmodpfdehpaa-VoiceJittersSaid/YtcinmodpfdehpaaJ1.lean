/- Frames of sound that came, in plain Lean: the jitter, and what was lost, are told alike by both sides. Conditions: as each lemma says. -/
import Derived.Test.YtcinmodpfdehpaaJx1
import Derived.Test.YtcinmodpfdehpaaJx2
import Derived.Test.YtcinmodpfdehpaaJx3
import Derived.Test.YtcinmodpfdehpaaJx4
import Derived.Test.YtcinmodpfdehpaaJx5
import Derived.Test.YtcinmodpfdehpaaJx6
import Derived.Test.YtcinmodpfdehpaaJx7
import Derived.Test.YtcinmodpfdehpaaJx8
import Derived.Test.YtcinmodpfdehpaaHPure
namespace Go.Proofs.Ytcinmodpfdehpaa.Pure
open Go.RowKit Go.Proofs.Ytcinmodpfdehpaa.J Go.Proofs.YtcinmodpfdehpaaW.PrintWords Go.Proofs.YtcinmodpfdehpaaW.PrintLast Go.Proofs.YtcinmodpfdehpaaW.PrintMore Hand
set_option linter.unusedVariables false
theorem knownj_ev : Ev (fun k => wireglasslaw25_known.f k) true := Ev.of (fun k => wireglasslaw25_known.mono k) (k := 20) (by decide +kernel)
theorem samej_from (l : List Int) (hl : l.length ≤ 9223372036854775807) : ∀ (d i : Nat), i + d = l.length → Ev (fun k => wireglassref02_SameInts.l0 k l l (i : Int)) true
  | 0, i, h => Ev.step (f := fun _ => some true) (fun k => by rw [wireglassref02_SameInts.l0, if_neg (by omega)]) (Ev.now _)
  | d + 1, i, h => Ev.step (f := fun k => wireglassref02_SameInts.l0 k l l ((i + 1 : Nat) : Int)) (fun k => by
      rw [wireglassref02_SameInts.l0, if_pos (by omega), if_pos (by omega), if_pos (by omega), if_pos rfl, w64 (by omega) (by omega)]; rfl) (samej_from l hl d (i + 1) (by omega))
theorem samej_ev (l : List Int) (hl : l.length ≤ 9223372036854775807) : Ev (fun k => wireglassref02_SameInts.f k l l) true := by
  unfold wireglassref02_SameInts.f
  exact Ev.if_pos rfl (samej_from l hl l.length 0 (by omega))
abbrev Smp := S39
def nz (l : List Smp) (i : Nat) : Smp := l.getD i z39
theorem rd_nz (l : List Smp) (i : Nat) : rd_T39 l (i : Int) = nz l i := by unfold rd_T39 nz; rw [Int.toNat_natCast]
theorem rd_nz1 (l : List Smp) (i : Nat) : rd_T39 l (((i + 1 : Nat) : Int) - 1) = nz l i := by unfold rd_T39 nz; congr 1; omega
theorem next64 {i : Nat} (h : i < 1000000000000000) : wrap64 ((i : Int) + 1) = ((i + 1 : Nat) : Int) := by rw [w64 (by omega) (by omega)]; omega
theorem nz_ok {l : List Smp} (h : l.all sOk = true) {i : Nat} (hi : i < l.length) : (0 ≤ (nz l i).f0 ∧ (nz l i).f0 ≤ 65535) ∧ (0 ≤ (nz l i).f1 ∧ (nz l i).f1 ≤ 4294967295) ∧ (0 ≤ (nz l i).f2 ∧ (nz l i).f2 ≤ 1000000000000000) := by
  have hm : nz l i ∈ l := by unfold nz; rw [List.getD_eq_getElem?_getD, List.getElem?_eq_getElem hi]; exact List.getElem_mem hi
  exact of_decide_eq_true (List.all_eq_true.1 h _ hm)
theorem over_from (l : List Smp) (hl : l.length ≤ 140737488351232) : ∀ (d i : Nat) (n : Int), i + d = l.length → ∃ b, Ev (fun k => wireglasslaw25_over.l0 k l n (i : Int)) b
  | 0, i, n, h => ⟨_, Ev.step (f := fun _ => some (decide (n > 40000))) (fun k => by rw [wireglasslaw25_over.l0, if_neg (by omega)]) (Ev.now _)⟩
  | d + 1, i, n, h => by
    obtain ⟨b, hb⟩ := over_from l hl d (i + 1) (wrap64 (n + ((nz l i).f3.length : Int))) (by omega)
    exact ⟨b, Ev.step (fun k => by rw [wireglasslaw25_over.l0, if_pos (by omega), if_pos (by omega), rd_nz, next64 (by omega)]) hb⟩
theorem over_ev (l : List Smp) (hl : l.length ≤ 140737488351232) : ∃ b, Ev (fun k => wireglasslaw25_over.f k l) b := over_from l hl l.length 0 l.length (by omega)
/-- What is wrong with frames that came. -/
theorem frames_from (l : List Smp) (hl : l.length ≤ 200) : ∀ (d i : Nat), i + d = l.length → Ev (fun k => wireglassref25_frames.l0 k l (i : Int)) (if (l.drop i).all sOk = true then 0 else 1)
  | 0, i, h => by
    rw [if_pos (by rw [List.drop_eq_nil_of_le (by omega)]; rfl)]
    exact Ev.step (f := fun _ => some 0) (fun k => by rw [wireglassref25_frames.l0, if_neg (by omega)]) (Ev.now _)
  | d + 1, i, h => by
    have ih := frames_from l hl d (i + 1) (by omega)
    have hi : i < l.length := by omega
    have hd : l.drop i = nz l i :: l.drop (i + 1) := by
      rw [List.drop_eq_getElem_cons hi]
      congr 1
      unfold nz
      rw [List.getD_eq_getElem?_getD, List.getElem?_eq_getElem hi]; rfl
    rw [hd, List.all_cons]
    cases hs : sOk (nz l i) with
    | true =>
      rw [Bool.true_and]
      have ho := of_decide_eq_true hs
      refine Ev.step (fun k => ?_) ih
      rw [wireglassref25_frames.l0, if_pos (by omega), if_pos (by omega), rd_nz, if_neg (by omega), if_neg (by omega), if_neg (by omega), if_neg (by omega), if_neg (by omega), if_neg (by omega), next64 (by omega)]
    | false =>
      rw [Bool.false_and, if_neg (by decide)]
      have ho : ¬ ((0 ≤ (nz l i).f0 ∧ (nz l i).f0 ≤ 65535) ∧ (0 ≤ (nz l i).f1 ∧ (nz l i).f1 ≤ 4294967295) ∧ (0 ≤ (nz l i).f2 ∧ (nz l i).f2 ≤ 1000000000000000)) := of_decide_eq_false hs
      refine Ev.step (f := fun _ => some 1) (fun k => ?_) (Ev.now _)
      rw [wireglassref25_frames.l0, if_pos (by omega), if_pos (by omega), rd_nz]
      by_cases c1 : (nz l i).f0 < 0
      · rw [if_pos c1]
      rw [if_neg c1]
      by_cases c2 : (nz l i).f0 > 65535
      · rw [if_pos c2]
      rw [if_neg c2]
      by_cases c3 : (nz l i).f1 < 0
      · rw [if_pos c3]
      rw [if_neg c3]
      by_cases c4 : (nz l i).f1 ≥ 4294967296
      · rw [if_pos c4]
      rw [if_neg c4]
      by_cases c5 : (nz l i).f2 < 0
      · rw [if_pos c5]
      rw [if_neg c5]
      by_cases c6 : (nz l i).f2 > 1000000000000000
      · rw [if_pos c6]
      exact absurd ⟨⟨by omega, by omega⟩, ⟨by omega, by omega⟩, by omega, by omega⟩ ho
/-- The three ways: too many; a frame or the rate wrong; right. -/
theorem frames_big {l : List Smp} (h : 200 < l.length) : Ev (fun k => wireglassref25_frames.f k l) 3 := by
  unfold wireglassref25_frames.f
  exact Ev.if_pos (by omega) (Ev.now _)
theorem frames_ev {l : List Smp} (h : l.length ≤ 200) : Ev (fun k => wireglassref25_frames.f k l) (if l.all sOk = true then 0 else 1) := by
  unfold wireglassref25_frames.f
  have := frames_from l h l.length 0 (by omega)
  rw [List.drop_zero] at this
  exact Ev.if_neg (by omega) this
def nearV (d m : Int) : Int := (d + m / 2) % m - m / 2
theorem near_is (d m : Int) (hm : m = 65536 ∨ m = 4294967296) (hd : -1000000000000 ≤ d) (hd2 : d ≤ 1000000000000) : voice_near.f d m = some (nearV d m) ∧ wireglassref25_near.f d m = some (nearV d m) ∧ -(m / 2) ≤ nearV d m ∧ nearV d m < m / 2 ∧ (nearV d m - d) % m = 0 := by
  unfold voice_near.f wireglassref25_near.f nearV
  rw [if_neg (show ¬ m = 0 by omega), if_neg (show ¬ m = 0 by omega)]
  have hm0 : 0 < m := by omega
  have hm1 : m ≤ 4611686018427387904 := by omega
  rw [tdiv_pos (by omega), w64 (n := m / 2) (by omega) (by omega), low_mod hm0 hm1, w64 (n := d + m / 2) (by omega) (by omega), low_mod hm0 hm1]
  rcases hm with rfl | rfl
  · refine ⟨?_, ?_, by omega, by omega, by omega⟩
    · by_cases c : d % 65536 ≥ 65536 / 2
      · rw [if_pos c, w64 (by omega) (by omega)]; congr 1; omega
      · rw [if_neg c]; congr 1; omega
    · rw [w64 (by omega) (by omega)]
  · refine ⟨?_, ?_, by omega, by omega, by omega⟩
    · by_cases c : d % 4294967296 ≥ 4294967296 / 2
      · rw [if_pos c, w64 (by omega) (by omega)]; congr 1; omega
      · rw [if_neg c]; congr 1; omega
    · rw [w64 (by omega) (by omega)]
theorem units_is (t r : Int) (t0 : 0 ≤ t) (t1 : t ≤ 1000000000000000) (r0 : 1 ≤ r) (r1 : r ≤ 1000000) : voice_units.f t r = some (t * r / 1000000) ∧ wireglassref25_units.f t r = some (t * r / 1000000) := by
  refine ⟨by unfold voice_units.f; rw [if_pos ⟨⟨t0, t1⟩, r0, r1⟩], ?_⟩
  unfold wireglassref25_units.f
  have hA0 : 0 ≤ t / 1000000 * r := Int.mul_nonneg (by omega) (by omega)
  have hA1 : t / 1000000 * r ≤ 1000000000 * 1000000 := Int.mul_le_mul (by omega) r1 (by omega) (by omega)
  have hB0 : 0 ≤ t % 1000000 * r := Int.mul_nonneg (by omega) (by omega)
  have hB1 : t % 1000000 * r ≤ 999999 * 1000000 := Int.mul_le_mul (by omega) r1 (by omega) (by omega)
  have hP : t * r = t / 1000000 * r * 1000000 + t % 1000000 * r := by
    have e : t = t / 1000000 * 1000000 + t % 1000000 := by omega
    calc t * r = (t / 1000000 * 1000000 + t % 1000000) * r := by rw [← e]
      _ = t / 1000000 * r * 1000000 + t % 1000000 * r := by rw [Int.add_mul, Int.mul_right_comm]
  rw [tdiv_pos t0, tmod_pos t0, w64 (n := t / 1000000) (by omega) (by omega)]
  obtain ⟨A, hA⟩ : ∃ A, t / 1000000 * r = A := ⟨_, rfl⟩
  obtain ⟨B, hB⟩ : ∃ B, t % 1000000 * r = B := ⟨_, rfl⟩
  obtain ⟨Q, hQ⟩ : ∃ Q, t * r = Q := ⟨_, rfl⟩
  rw [hA] at hA0 hA1 hP ⊢
  rw [hB] at hB0 hB1 hP ⊢
  rw [hQ] at hP ⊢
  rw [w64 (n := A) (by omega) (by omega), w64 (n := B) (by omega) (by omega), tdiv_pos hB0, w64 (n := B / 1000000) (by omega) (by omega), w64 (by omega) (by omega)]
  congr 1
  omega
/-- The jitter's loop. -/
theorem jitter_from (l : List Smp) (r : Int) (hl : l.length ≤ 200) (hok : l.all sOk = true) (r0 : 1 ≤ r) (r1 : r ≤ 1000000) : ∀ (d i : Nat) (out : List Int) (j : Int), i + d = l.length → out.length = i →
    ∃ v, Ev (fun k => voice_Jitter.l0 k l r out j l (l.length : Int) (i : Int)) (v, 0) ∧ Ev (fun k => wireglassref25_Jitter.l0 k l r out j (i : Int)) (v, 0) ∧ v.length ≤ 200
  | 0, i, out, j, h, ho => ⟨out, Ev.step (f := fun _ => some (out, 0)) (fun k => by rw [voice_Jitter.l0, if_neg (by omega)]) (Ev.now _), Ev.step (f := fun _ => some (out, 0)) (fun k => by rw [wireglassref25_Jitter.l0, if_neg (by omega)]) (Ev.now _), by omega⟩
  | d + 1, i, out, j, h, ho => by
    cases i with
    | zero =>
      obtain ⟨v, h1, h2, h3⟩ := jitter_from l r hl hok r0 r1 d 1 (out ++ [wrap64 (Int.tdiv j 16)]) j (by omega) (by simp [ho])
      refine ⟨v, Ev.step (fun k => ?_) h1, Ev.step (fun k => ?_) h2, h3⟩
      · rw [voice_Jitter.l0, if_pos (by omega), if_pos (by omega), if_pos (by omega), if_neg (by omega), if_pos (by omega), next64 (by omega)]
      · rw [wireglassref25_Jitter.l0, if_pos (by omega), if_neg (by omega), if_pos (by omega), next64 (by omega)]
    | succ i =>
      have a1 := nz_ok hok (i := i + 1) (by omega)
      have a0 := nz_ok hok (i := i) (by omega)
      have u1 := units_is (nz l (i + 1)).f2 r a1.2.2.1 a1.2.2.2 r0 r1
      have u0 := units_is (nz l i).f2 r a0.2.2.1 a0.2.2.2 r0 r1
      have ed : wrap64 ((nz l (i + 1)).f1 - (nz l i).f1) = (nz l (i + 1)).f1 - (nz l i).f1 := w64 (by omega) (by omega)
      have nn := near_is ((nz l (i + 1)).f1 - (nz l i).f1) 4294967296 (.inr rfl) (by omega) (by omega)
      have e1 : wrap64 (((i + 1 : Nat) : Int) - 1) = ((i : Nat) : Int) := by rw [w64 (by omega) (by omega)]; omega
      obtain ⟨X, hX⟩ : ∃ X, (nz l (i + 1)).f2 * r / 1000000 = X := ⟨_, rfl⟩
      obtain ⟨Y, hY⟩ : ∃ Y, (nz l i).f2 * r / 1000000 = Y := ⟨_, rfl⟩
      obtain ⟨Z, hZ⟩ : ∃ Z, nearV ((nz l (i + 1)).f1 - (nz l i).f1) 4294967296 = Z := ⟨_, rfl⟩
      rw [hX] at u1
      rw [hY] at u0
      rw [hZ] at nn
      obtain ⟨J, hJ⟩ : ∃ J, wrap64 (j + (wrap64 ((mx (wrap64 ((wrap64 (X - Y)) - Z)) (wrap64 (-(wrap64 ((wrap64 (X - Y)) - Z))))) - (wrap64 (Int.tdiv (wrap64 (j + 8)) 16))))) = J := ⟨_, rfl⟩
      obtain ⟨v, h1, h2, h3⟩ := jitter_from l r hl hok r0 r1 d (i + 1 + 1) (out ++ [wrap64 (Int.tdiv J 16)]) J (by omega) (by simp [ho])
      refine ⟨v, Ev.step (fun k => ?_) h1, Ev.step (fun k => ?_) h2, h3⟩
      · rw [voice_Jitter.l0, if_pos (by omega), if_pos (by omega), if_pos (by omega), if_pos (by omega), e1, if_pos (by omega), if_pos (by omega), rd_nz, rd_nz, u1.1, Option.bind_some, u0.1, Option.bind_some, ed, nn.1, Option.bind_some, if_pos (by omega), hJ, next64 (by omega)]
      · rw [wireglassref25_Jitter.l0, if_pos (by omega), if_pos (by omega), if_pos (by omega), e1, rd_nz, rd_nz, u1.2, Option.bind_some, if_pos (by omega), if_pos (by omega), u0.2, Option.bind_some, ed, nn.2.1, Option.bind_some, if_pos (by omega), hJ, next64 (by omega)]
theorem rate_is (r : Int) : wireglassref25_isRate.f r = some (decide (1 ≤ r ∧ r ≤ 1000000)) := by
  unfold wireglassref25_isRate.f
  by_cases c : r ≥ 1
  · rw [if_pos c]; congr 1; simp only [decide_eq_decide]; omega
  · rw [if_neg c]; congr 1; symm; rw [decide_eq_false_iff_not]; omega
theorem jitter_ev (l : List Smp) (r : Int) : ∃ v e, Ev (fun k => voice_Jitter.f k l r) (v, e) ∧ Ev (fun k => wireglassref25_Jitter.f k l r) (v, e) ∧ v.length ≤ 200 := by
  unfold voice_Jitter.f wireglassref25_Jitter.f
  by_cases c1 : l.length ≤ 200
  · have hf := frames_ev c1
    cases hok : l.all sOk with
    | true =>
      rw [hok, if_pos rfl] at hf
      by_cases c2 : 1 ≤ r ∧ r ≤ 1000000
      · obtain ⟨v, h1, h2, h3⟩ := jitter_from l r c1 hok c2.1 c2.2 l.length 0 [] 0 (by omega) rfl
        refine ⟨v, 0, ?_, ?_, h3⟩
        · refine Ev.congr (fun k => ?_) h1
          unfold voice_asked.f
          rw [if_neg (by omega), if_neg (by omega), if_neg (by omega), if_pos hok, Option.bind_some, if_pos rfl]
          rfl
        · refine Ev.bind hf (Ev.if_pos rfl (Ev.congr (fun k => ?_) h2))
          rw [rate_is, decide_eq_true c2, Option.bind_some, if_pos rfl]
          rfl
      · refine ⟨[], 1, ?_, ?_, by simp⟩
        · refine Ev.congr (fun k => ?_) (Ev.now _)
          unfold voice_asked.f
          rw [if_neg (by omega)]
          by_cases c3 : r < 1
          · rw [if_pos c3, Option.bind_some, if_neg (by decide)]
          · rw [if_neg c3, if_pos (by omega), Option.bind_some, if_neg (by decide)]
        · refine Ev.bind hf (Ev.if_pos rfl (Ev.congr (fun k => ?_) (Ev.now _)))
          rw [rate_is, decide_eq_false c2, Option.bind_some, if_neg (by decide)]
    | false =>
      rw [hok, if_neg (by decide)] at hf
      refine ⟨[], 1, ?_, ?_, by simp⟩
      · refine Ev.congr (fun k => ?_) (Ev.now _)
        unfold voice_asked.f
        rw [if_neg (by omega)]
        by_cases c3 : r < 1
        · rw [if_pos c3, Option.bind_some, if_neg (by decide)]
        · rw [if_neg c3]
          by_cases c4 : r > 1000000
          · rw [if_pos c4, Option.bind_some, if_neg (by decide)]
          · rw [if_neg c4, if_neg (by rw [hok]; decide), Option.bind_some, if_neg (by decide)]
      · exact Ev.bind hf (Ev.if_neg (by decide) (Ev.now _))
  · refine ⟨[], 3, ?_, ?_, by simp⟩
    · refine Ev.congr (fun k => ?_) (Ev.now _)
      unfold voice_asked.f
      rw [if_pos (by omega), Option.bind_some, if_neg (by decide)]
    · exact Ev.bind (frames_big (by omega)) (Ev.if_neg (by decide) (Ev.now _))
end Go.Proofs.Ytcinmodpfdehpaa.Pure
