/- Frames of sound that came, in plain Lean: what is wrong with them, and their numbers, by both sides. Conditions: as each lemma says. -/
import Derived.Test.YtcinmodpfdehpaaPx1
import Derived.Test.YtcinmodpfdehpaaPx2
import Derived.Test.YtcinmodpfdehpaaPx3
import Derived.Test.YtcinmodpfdehpaaPx5
import Derived.Test.YtcinmodpfdehpaaPx6
import Derived.Test.YtcinmodpfdehpaaPx8
import Derived.Test.YtcinmodpfdehpaaPx9
import Derived.Test.YtcinmodpfdehpaaHPure
namespace Go.Proofs.Ytcinmodpfdehpaa.Pure
open Go.RowKit Go.Proofs.Ytcinmodpfdehpaa.P Go.Proofs.YtcinmodpfdehpaaW.PrintWords Go.Proofs.YtcinmodpfdehpaaW.PrintLast Go.Proofs.YtcinmodpfdehpaaW.PrintMore Hand
set_option linter.unusedVariables false
theorem knownj_ev : Ev (fun k => wireglasslaw25_known.f k) true := Ev.of (fun k => wireglasslaw25_known.mono k) (k := 20) (by decide +kernel)
theorem samej_from (l : List Int) (hl : l.length ≤ 9223372036854775807) : ∀ (d i : Nat), i + d = l.length → Ev (fun k => wireglassref02_SameInts.l0 k l l (i : Int)) true
  | 0, i, h => Ev.step (f := fun _ => some true) (fun k => by rw [wireglassref02_SameInts.l0, if_neg (by omega)]) (Ev.now _)
  | d + 1, i, h => Ev.step (f := fun k => wireglassref02_SameInts.l0 k l l ((i + 1 : Nat) : Int)) (fun k => by
      rw [wireglassref02_SameInts.l0, if_pos (by omega), if_pos (by omega), if_pos (by omega), if_pos rfl, w64 (by omega) (by omega)]; rfl) (samej_from l hl d (i + 1) (by omega))
theorem samej_ev (l : List Int) (hl : l.length ≤ 9223372036854775807) : Ev (fun k => wireglassref02_SameInts.f k l l) true := by
  unfold wireglassref02_SameInts.f
  exact Ev.if_pos rfl (samej_from l hl l.length 0 (by omega))
abbrev Smp := S39
def nz (l : List Smp) (i : Nat) : Smp := l.getD i z39
theorem rd_nz (l : List Smp) (i : Nat) : rd_T39 l (i : Int) = nz l i := by unfold rd_T39 nz; rw [Int.toNat_natCast]
theorem next64 {i : Nat} (h : i < 1000000000000000) : wrap64 ((i : Int) + 1) = ((i + 1 : Nat) : Int) := by rw [w64 (by omega) (by omega)]; omega
theorem nz_ok {l : List Smp} (h : l.all sOk = true) {i : Nat} (hi : i < l.length) : (0 ≤ (nz l i).f0 ∧ (nz l i).f0 ≤ 65535) ∧ (0 ≤ (nz l i).f1 ∧ (nz l i).f1 ≤ 4294967295) ∧ (0 ≤ (nz l i).f2 ∧ (nz l i).f2 ≤ 1000000000000000) := by
  have hm : nz l i ∈ l := by unfold nz; rw [List.getD_eq_getElem?_getD, List.getElem?_eq_getElem hi]; exact List.getElem_mem hi
  exact of_decide_eq_true (List.all_eq_true.1 h _ hm)
theorem over_from (l : List Smp) (hl : l.length ≤ 140737488351232) : ∀ (d i : Nat) (n : Int), i + d = l.length → ∃ b, Ev (fun k => wireglasslaw25_over.l0 k l n (i : Int)) b
  | 0, i, n, h => ⟨_, Ev.step (f := fun _ => some (decide (n > 40000))) (fun k => by rw [wireglasslaw25_over.l0, if_neg (by omega)]) (Ev.now _)⟩
  | d + 1, i, n, h => by
    obtain ⟨b, hb⟩ := over_from l hl d (i + 1) (wrap64 (n + ((nz l i).f3.length : Int))) (by omega)
    exact ⟨b, Ev.step (fun k => by rw [wireglasslaw25_over.l0, if_pos (by omega), if_pos (by omega), rd_nz, next64 (by omega)]) hb⟩
theorem over_ev (l : List Smp) (hl : l.length ≤ 140737488351232) : ∃ b, Ev (fun k => wireglasslaw25_over.f k l) b := over_from l hl l.length 0 l.length (by omega)
theorem frames_from (l : List Smp) (hl : l.length ≤ 200) : ∀ (d i : Nat), i + d = l.length → Ev (fun k => wireglassref25_frames.l0 k l (i : Int)) (if (l.drop i).all sOk = true then 0 else 1)
  | 0, i, h => by
    rw [if_pos (by rw [List.drop_eq_nil_of_le (by omega)]; rfl)]
    exact Ev.step (f := fun _ => some 0) (fun k => by rw [wireglassref25_frames.l0, if_neg (by omega)]) (Ev.now _)
  | d + 1, i, h => by
    have ih := frames_from l hl d (i + 1) (by omega)
    have hi : i < l.length := by omega
    have hd : l.drop i = nz l i :: l.drop (i + 1) := by
      rw [List.drop_eq_getElem_cons hi]
      congr 1
      unfold nz
      rw [List.getD_eq_getElem?_getD, List.getElem?_eq_getElem hi]; rfl
    rw [hd, List.all_cons]
    cases hs : sOk (nz l i) with
    | true =>
      rw [Bool.true_and]
      have ho := of_decide_eq_true hs
      refine Ev.step (fun k => ?_) ih
      rw [wireglassref25_frames.l0, if_pos (by omega), if_pos (by omega), rd_nz, if_neg (by omega), if_neg (by omega), if_neg (by omega), if_neg (by omega), if_neg (by omega), if_neg (by omega), next64 (by omega)]
    | false =>
      rw [Bool.false_and, if_neg (by decide)]
      have ho : ¬ ((0 ≤ (nz l i).f0 ∧ (nz l i).f0 ≤ 65535) ∧ (0 ≤ (nz l i).f1 ∧ (nz l i).f1 ≤ 4294967295) ∧ (0 ≤ (nz l i).f2 ∧ (nz l i).f2 ≤ 1000000000000000)) := of_decide_eq_false hs
      refine Ev.step (f := fun _ => some 1) (fun k => ?_) (Ev.now _)
      rw [wireglassref25_frames.l0, if_pos (by omega), if_pos (by omega), rd_nz]
      by_cases c1 : (nz l i).f0 < 0
      · rw [if_pos c1]
      rw [if_neg c1]
      by_cases c2 : (nz l i).f0 > 65535
      · rw [if_pos c2]
      rw [if_neg c2]
      by_cases c3 : (nz l i).f1 < 0
      · rw [if_pos c3]
      rw [if_neg c3]
      by_cases c4 : (nz l i).f1 ≥ 4294967296
      · rw [if_pos c4]
      rw [if_neg c4]
      by_cases c5 : (nz l i).f2 < 0
      · rw [if_pos c5]
      rw [if_neg c5]
      by_cases c6 : (nz l i).f2 > 1000000000000000
      · rw [if_pos c6]
      exact absurd ⟨⟨by omega, by omega⟩, ⟨by omega, by omega⟩, by omega, by omega⟩ ho
theorem frames_big {l : List Smp} (h : 200 < l.length) : Ev (fun k => wireglassref25_frames.f k l) 3 := by
  unfold wireglassref25_frames.f
  exact Ev.if_pos (by omega) (Ev.now _)
theorem frames_ev {l : List Smp} (h : l.length ≤ 200) : Ev (fun k => wireglassref25_frames.f k l) (if l.all sOk = true then 0 else 1) := by
  unfold wireglassref25_frames.f
  have := frames_from l h l.length 0 (by omega)
  rw [List.drop_zero] at this
  exact Ev.if_neg (by omega) this
def nearV (d m : Int) : Int := (d + m / 2) % m - m / 2
theorem near_is (d m : Int) (hm : m = 65536 ∨ m = 4294967296) (hd : -1000000000000 ≤ d) (hd2 : d ≤ 1000000000000) : voice_near.f d m = some (nearV d m) ∧ wireglassref25_near.f d m = some (nearV d m) ∧ -(m / 2) ≤ nearV d m ∧ nearV d m < m / 2 ∧ (nearV d m - d) % m = 0 := by
  unfold voice_near.f wireglassref25_near.f nearV
  rw [if_neg (show ¬ m = 0 by omega), if_neg (show ¬ m = 0 by omega)]
  have hm0 : 0 < m := by omega
  have hm1 : m ≤ 4611686018427387904 := by omega
  rw [tdiv_pos (by omega), w64 (n := m / 2) (by omega) (by omega), low_mod hm0 hm1, w64 (n := d + m / 2) (by omega) (by omega), low_mod hm0 hm1]
  rcases hm with rfl | rfl
  · refine ⟨?_, ?_, by omega, by omega, by omega⟩
    · by_cases c : d % 65536 ≥ 65536 / 2
      · rw [if_pos c, w64 (by omega) (by omega)]; congr 1; omega
      · rw [if_neg c]; congr 1; omega
    · rw [w64 (by omega) (by omega)]
  · refine ⟨?_, ?_, by omega, by omega, by omega⟩
    · by_cases c : d % 4294967296 ≥ 4294967296 / 2
      · rw [if_pos c, w64 (by omega) (by omega)]; congr 1; omega
      · rw [if_neg c]; congr 1; omega
    · rw [w64 (by omega) (by omega)]
theorem rate_is (r : Int) : wireglassref25_isRate.f r = some (decide (1 ≤ r ∧ r ≤ 1000000)) := by
  unfold wireglassref25_isRate.f
  by_cases c : r ≥ 1
  · rw [if_pos c]; congr 1; simp only [decide_eq_decide]; omega
  · rw [if_neg c]; congr 1; symm; rw [decide_eq_false_iff_not]; omega
theorem numbers_from (l : List Smp) (hl : l.length ≤ 200) (hok : l.all sOk = true) : ∀ (d i : Nat) (out : List Int) (t a : Int), i + d = l.length → out.length = i → 1 ≤ i → 0 ≤ t → t ≤ 32768 * i → (0 ≤ a ∧ a ≤ 65535) → (a - (nz l 0).f0 - t) % 65536 = 0 →
    ∃ r, Ev (fun k => voice_numbers.l0 k l out t l (l.length : Int) (i : Int)) (out ++ r) ∧ Ev (fun k => wireglassref25_numbers.l0 k l out t a (i : Int)) (out ++ r) ∧ (out ++ r).length = l.length ∧ ∀ x ∈ r, -40000000 ≤ x ∧ x ≤ 40000000
  | 0, i, out, t, a, h, ho, h1, t0, t1, ha, hm => ⟨[], by rw [List.append_nil]; exact Ev.step (f := fun _ => some out) (fun k => by rw [voice_numbers.l0, if_neg (by omega)]) (Ev.now _), by rw [List.append_nil]; exact Ev.step (f := fun _ => some out) (fun k => by rw [wireglassref25_numbers.l0, if_neg (by omega)]) (Ev.now _), by rw [List.append_nil]; omega, fun x hx => absurd hx (by simp)⟩
  | d + 1, i, out, t, a, h, ho, h1, t0, t1, ha, hm => by
    have ok0 := nz_ok hok (i := 0) (by omega)
    have oki := nz_ok hok (i := i) (by omega)
    have n1 := near_is ((nz l i).f0 - ((nz l 0).f0 + t)) 65536 (.inl rfl) (by omega) (by omega)
    have n2 := near_is ((nz l i).f0 - a) 65536 (.inl rfl) (by omega) (by omega)
    obtain ⟨V, hV⟩ : ∃ V, nearV ((nz l i).f0 - ((nz l 0).f0 + t)) 65536 = V := ⟨_, rfl⟩
    have hVV : nearV ((nz l i).f0 - a) 65536 = V := by
      have b1 := n1.2.2
      have b2 := n2.2.2
      rw [← hV]
      omega
    rw [hV] at n1
    rw [hVV] at n2
    have b1 := n1.2.2
    have e0 : wrap64 ((nz l 0).f0 + t) = (nz l 0).f0 + t := w64 (by omega) (by omega)
    have e1 : wrap64 ((nz l i).f0 - ((nz l 0).f0 + t)) = (nz l i).f0 - ((nz l 0).f0 + t) := w64 (by omega) (by omega)
    have e2 : wrap64 ((nz l i).f0 - a) = (nz l i).f0 - a := w64 (by omega) (by omega)
    have e3 : wrap64 (t + V) = t + V := w64 (by omega) (by omega)
    have e4 : rd_T39 l 0 = nz l 0 := rd_nz l 0
    by_cases c : t + V > t
    · obtain ⟨r, h2, h3, h4, h5⟩ := numbers_from l hl hok d (i + 1) (out ++ [t + V]) (t + V) (nz l i).f0 (by omega) (by simp [ho]) (by omega) (by omega) (by omega) (by omega) (by omega)
      refine ⟨(t + V) :: r, ?_, ?_, by simpa using h4, fun x hx => by rcases List.mem_cons.1 hx with rfl | hx; omega; exact h5 x hx⟩
      · rw [show out ++ (t + V) :: r = out ++ [t + V] ++ r by simp]
        refine Ev.step (fun k => ?_) h2
        rw [voice_numbers.l0, if_pos (by omega), if_pos (by omega), if_pos (by omega), if_pos (by omega), if_pos (by omega), rd_nz, e4, e0, e1, n1.1, Option.bind_some, if_pos (by omega), e3, next64 (by omega), show mx t (t + V) = t + V from by unfold mx; rw [if_pos (by omega)]]
      · rw [show out ++ (t + V) :: r = out ++ [t + V] ++ r by simp]
        refine Ev.step (fun k => ?_) h3
        rw [wireglassref25_numbers.l0, if_pos (by omega), if_pos (by omega), if_pos (by omega), rd_nz, e2, n2.2.1, Option.bind_some, if_neg (by omega), e3, if_pos c, if_pos (by omega), next64 (by omega)]
    · obtain ⟨r, h2, h3, h4, h5⟩ := numbers_from l hl hok d (i + 1) (out ++ [t + V]) t a (by omega) (by simp [ho]) (by omega) (by omega) (by omega) ha hm
      refine ⟨(t + V) :: r, ?_, ?_, by simpa using h4, fun x hx => by rcases List.mem_cons.1 hx with rfl | hx; omega; exact h5 x hx⟩
      · rw [show out ++ (t + V) :: r = out ++ [t + V] ++ r by simp]
        refine Ev.step (fun k => ?_) h2
        rw [voice_numbers.l0, if_pos (by omega), if_pos (by omega), if_pos (by omega), if_pos (by omega), if_pos (by omega), rd_nz, e4, e0, e1, n1.1, Option.bind_some, if_pos (by omega), e3, next64 (by omega), show mx t (t + V) = t from by unfold mx; rw [if_neg (by omega)]]
      · rw [show out ++ (t + V) :: r = out ++ [t + V] ++ r by simp]
        refine Ev.step (fun k => ?_) h3
        rw [wireglassref25_numbers.l0, if_pos (by omega), if_pos (by omega), if_pos (by omega), rd_nz, e2, n2.2.1, Option.bind_some, if_neg (by omega), e3, if_neg c, if_pos (by omega), next64 (by omega)]
theorem numbers_ev (l : List Smp) (hl : l.length ≤ 200) (hok : l.all sOk = true) (h0 : l.length ≠ 0) : ∃ r, Ev (fun k => voice_numbers.f k l) (0 :: r) ∧ Ev (fun k => wireglassref25_numbers.f k l) (0 :: r) ∧ (0 :: r).length = l.length ∧ ∀ x ∈ 0 :: r, -40000000 ≤ x ∧ x ≤ 40000000 := by
  have ok0 := nz_ok hok (i := 0) (by omega)
  obtain ⟨r, h2, h3, h4, h5⟩ := numbers_from l hl hok (l.length - 1) 1 [0] 0 (nz l 0).f0 (by omega) rfl (by omega) (by omega) (by omega) ok0.1 (by omega)
  refine ⟨r, ?_, ?_, h4, fun x hx => by rcases List.mem_cons.1 hx with rfl | hx; omega; exact h5 x hx⟩
  · unfold voice_numbers.f
    refine Ev.step (fun k => ?_) h2
    rw [voice_numbers.l0, if_pos (by omega), if_pos (by omega), if_pos (by omega), if_neg (by omega), if_pos (by simp), w64 (n := 0 + 1) (by decide) (by decide), show mx 0 0 = 0 from rfl]
    rfl
  · unfold wireglassref25_numbers.f
    refine Ev.step (fun k => ?_) h3
    rw [wireglassref25_numbers.l0, if_pos (by omega), if_neg (by omega), if_pos rfl, if_pos (by omega), if_pos (by simp), show rd_T39 l 0 = nz l 0 from rd_nz l 0, w64 (n := 0 + 1) (by decide) (by decide)]
    rfl
end Go.Proofs.Ytcinmodpfdehpaa.Pure
