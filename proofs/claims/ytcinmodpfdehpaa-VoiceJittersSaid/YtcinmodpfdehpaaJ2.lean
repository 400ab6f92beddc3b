/- Frames of sound that came, in plain Lean, on: their numbers, how many were lost, and the law. Conditions: as each lemma says. -/
import Derived.Test.YtcinmodpfdehpaaJ1
import Derived.Test.YtcinmodpfdehpaaJx6
import Derived.Test.YtcinmodpfdehpaaJx7
import Derived.Test.YtcinmodpfdehpaaJx8
namespace Go.Proofs.Ytcinmodpfdehpaa.Pure
open Go.RowKit Go.Proofs.Ytcinmodpfdehpaa.J Go.Proofs.YtcinmodpfdehpaaW.PrintWords Go.Proofs.YtcinmodpfdehpaaW.PrintLast Go.Proofs.YtcinmodpfdehpaaW.PrintMore Hand
set_option linter.unusedVariables false
/-- The numbers of frames: both sides count alike. -/
theorem numbers_from (l : List Smp) (hl : l.length ≤ 200) (hok : l.all sOk = true) : ∀ (d i : Nat) (out : List Int) (t a : Int), i + d = l.length → out.length = i → 1 ≤ i → 0 ≤ t → t ≤ 32768 * i → (0 ≤ a ∧ a ≤ 65535) → (a - (nz l 0).f0 - t) % 65536 = 0 →
    ∃ r, Ev (fun k => voice_numbers.l0 k l out t l (l.length : Int) (i : Int)) (out ++ r) ∧ Ev (fun k => wireglassref25_numbers.l0 k l out t a (i : Int)) (out ++ r) ∧ (out ++ r).length = l.length
  | 0, i, out, t, a, h, ho, h1, t0, t1, ha, hm => ⟨[], by rw [List.append_nil]; exact Ev.step (f := fun _ => some out) (fun k => by rw [voice_numbers.l0, if_neg (by omega)]) (Ev.now _), by rw [List.append_nil]; exact Ev.step (f := fun _ => some out) (fun k => by rw [wireglassref25_numbers.l0, if_neg (by omega)]) (Ev.now _), by rw [List.append_nil]; omega⟩
  | d + 1, i, out, t, a, h, ho, h1, t0, t1, ha, hm => by
    have ok0 := nz_ok hok (i := 0) (by omega)
    have oki := nz_ok hok (i := i) (by omega)
    have n1 := near_is ((nz l i).f0 - ((nz l 0).f0 + t)) 65536 (.inl rfl) (by omega) (by omega)
    have n2 := near_is ((nz l i).f0 - a) 65536 (.inl rfl) (by omega) (by omega)
    obtain ⟨V, hV⟩ : ∃ V, nearV ((nz l i).f0 - ((nz l 0).f0 + t)) 65536 = V := ⟨_, rfl⟩
    have hVV : nearV ((nz l i).f0 - a) 65536 = V := by
      have b1 := n1.2.2
      have b2 := n2.2.2
      rw [← hV]
      omega
    rw [hV] at n1
    rw [hVV] at n2
    have b1 := n1.2.2
    have e0 : wrap64 ((nz l 0).f0 + t) = (nz l 0).f0 + t := w64 (by omega) (by omega)
    have e1 : wrap64 ((nz l i).f0 - ((nz l 0).f0 + t)) = (nz l i).f0 - ((nz l 0).f0 + t) := w64 (by omega) (by omega)
    have e2 : wrap64 ((nz l i).f0 - a) = (nz l i).f0 - a := w64 (by omega) (by omega)
    have e3 : wrap64 (t + V) = t + V := w64 (by omega) (by omega)
    have e4 : rd_T39 l 0 = nz l 0 := rd_nz l 0
    by_cases c : t + V > t
    · obtain ⟨r, h2, h3, h4⟩ := numbers_from l hl hok d (i + 1) (out ++ [t + V]) (t + V) (nz l i).f0 (by omega) (by simp [ho]) (by omega) (by omega) (by omega) (by omega) (by omega)
      refine ⟨(t + V) :: r, ?_, ?_, by simpa using h4⟩
      · rw [show out ++ (t + V) :: r = out ++ [t + V] ++ r by simp]
        refine Ev.step (fun k => ?_) h2
        rw [voice_numbers.l0, if_pos (by omega), if_pos (by omega), if_pos (by omega), if_pos (by omega), if_pos (by omega), rd_nz, e4, e0, e1, n1.1, Option.bind_some, if_pos (by omega), e3, next64 (by omega), show mx t (t + V) = t + V from by unfold mx; rw [if_pos (by omega)]]
      · rw [show out ++ (t + V) :: r = out ++ [t + V] ++ r by simp]
        refine Ev.step (fun k => ?_) h3
        rw [wireglassref25_numbers.l0, if_pos (by omega), if_pos (by omega), if_pos (by omega), rd_nz, e2, n2.2.1, Option.bind_some, if_neg (by omega), e3, if_pos c, if_pos (by omega), next64 (by omega)]
    · obtain ⟨r, h2, h3, h4⟩ := numbers_from l hl hok d (i + 1) (out ++ [t + V]) t a (by omega) (by simp [ho]) (by omega) (by omega) (by omega) ha hm
      refine ⟨(t + V) :: r, ?_, ?_, by simpa using h4⟩
      · rw [show out ++ (t + V) :: r = out ++ [t + V] ++ r by simp]
        refine Ev.step (fun k => ?_) h2
        rw [voice_numbers.l0, if_pos (by omega), if_pos (by omega), if_pos (by omega), if_pos (by omega), if_pos (by omega), rd_nz, e4, e0, e1, n1.1, Option.bind_some, if_pos (by omega), e3, next64 (by omega), show mx t (t + V) = t from by unfold mx; rw [if_neg (by omega)]]
      · rw [show out ++ (t + V) :: r = out ++ [t + V] ++ r by simp]
        refine Ev.step (fun k => ?_) h3
        rw [wireglassref25_numbers.l0, if_pos (by omega), if_pos (by omega), if_pos (by omega), rd_nz, e2, n2.2.1, Option.bind_some, if_neg (by omega), e3, if_neg c, if_pos (by omega), next64 (by omega)]
theorem numbers_ev (l : List Smp) (hl : l.length ≤ 200) (hok : l.all sOk = true) (h0 : l.length ≠ 0) : ∃ r, Ev (fun k => voice_numbers.f k l) (0 :: r) ∧ Ev (fun k => wireglassref25_numbers.f k l) (0 :: r) ∧ (0 :: r).length = l.length := by
  have ok0 := nz_ok hok (i := 0) (by omega)
  obtain ⟨r, h2, h3, h4⟩ := numbers_from l hl hok (l.length - 1) 1 [0] 0 (nz l 0).f0 (by omega) rfl (by omega) (by omega) (by omega) ok0.1 (by omega)
  refine ⟨r, ?_, ?_, h4⟩
  · unfold voice_numbers.f
    refine Ev.step (fun k => ?_) h2
    rw [voice_numbers.l0, if_pos (by omega), if_pos (by omega), if_pos (by omega), if_neg (by omega), if_pos (by simp), w64 (n := 0 + 1) (by decide) (by decide), show mx 0 0 = 0 from rfl]
    rfl
  · unfold wireglassref25_numbers.f
    refine Ev.step (fun k => ?_) h3
    rw [wireglassref25_numbers.l0, if_pos (by omega), if_neg (by omega), if_pos rfl, if_pos (by omega), if_pos (by simp), show rd_T39 l 0 = nz l 0 from rd_nz l 0, w64 (n := 0 + 1) (by decide) (by decide)]
    rfl
/-- Whether a number came before. -/
theorem twice_from (ns : List Int) (hl : ns.length ≤ 1000) (i : Nat) (hi : i < ns.length) (m c o : Int) {R : Int × Int × Int × Int} (hR : ∀ b, b = decide (rd ns (i : Int) ∈ ns.take i) → Ev (fun k => wireglassref25_Lost.l1 k ns m c o (i : Int) b (i : Int)) R) : ∀ (d j : Nat) (b : Bool), j + d = i → b = decide (rd ns (i : Int) ∈ ns.take j) → Ev (fun k => wireglassref25_Lost.l1 k ns m c o (i : Int) b (j : Int)) R
  | 0, j, b, h, hb => by
    obtain rfl : j = i := by omega
    exact hR b hb
  | d + 1, j, b, h, hb => by
    have hj : j < ns.length := by omega
    have ht : ns.take (j + 1) = ns.take j ++ [rd ns (j : Int)] := by rw [List.take_succ_eq_append_getElem hj, rd_at hj]
    cases b with
    | true =>
      refine Ev.step (fun k => ?_) (twice_from ns hl i hi m c o hR d (j + 1) true (by omega) (by rw [ht]; symm; rw [decide_eq_true_iff]; exact List.mem_append.2 (.inl (of_decide_eq_true hb.symm))))
      rw [wireglassref25_Lost.l1, if_pos (by omega), if_pos rfl, next64 (by omega)]
    | false =>
      have hnot := of_decide_eq_false hb.symm
      refine Ev.step (fun k => ?_) (twice_from ns hl i hi m c o hR d (j + 1) (rd ns (j : Int) == rd ns (i : Int)) (by omega) (by
        rw [ht]
        rw [Bool.eq_iff_iff, decide_eq_true_iff, beq_iff_eq, List.mem_append]
        constructor
        · intro e; exact .inr (by rw [e]; exact List.mem_singleton.2 rfl)
        · rintro (e | e)
          · exact absurd e hnot
          · exact (List.mem_singleton.1 e).symm))
      rw [wireglassref25_Lost.l1, if_pos (by omega), if_neg (by decide), if_pos (by omega), if_pos (by omega), if_pos (by omega), if_pos (by omega), next64 (by omega)]
/-- What was lost, by both sides: from a place on. -/
theorem lost_from (ns : List Int) (hl : ns.length ≤ 1000) : ∀ (d i : Nat) (t c o : Int), i + d = ns.length → Ev (fun k => wireglassref25_Lost.l0 k ns t c o (i : Int)) (lostFrom (ns.drop i) (ns.take i) t c o)
  | 0, i, t, c, o, h => by
    rw [List.drop_eq_nil_of_le (by omega), lostFrom]
    exact Ev.step (f := fun _ => some (wrap64 (t + 1), c, o, 0)) (fun k => by rw [wireglassref25_Lost.l0, if_neg (by omega)]) (Ev.now _)
  | d + 1, i, t, c, o, h => by
    have hi : i < ns.length := by omega
    have hd : ns.drop i = rd ns (i : Int) :: ns.drop (i + 1) := by rw [List.drop_eq_getElem_cons hi, rd_at hi]
    have ht : ns.take (i + 1) = ns.take i ++ [rd ns (i : Int)] := by rw [List.take_succ_eq_append_getElem hi, rd_at hi]
    rw [hd, lostFrom, ← ht]
    refine Ev.step (fun k => by rw [wireglassref25_Lost.l0, if_pos (by omega)]) ?_
    refine twice_from ns hl i hi t c o (fun b hb => ?_) i 0 false (by omega) (by rw [List.take_zero]; rfl)
    obtain ⟨n, hn⟩ : ∃ n, rd ns (i : Int) = n := ⟨_, rfl⟩
    rw [hn] at hb ⊢
    cases b with
    | true =>
      have hm := of_decide_eq_true hb.symm
      rw [if_neg (fun h => h.2 hm), if_pos (Or.inr hm)]
      have ih := lost_from ns hl d (i + 1) (mx t n) c (wrap64 (o + 1)) (by omega)
      by_cases c0 : n ≥ 0
      · refine Ev.step (f := fun k => wireglassref25_Lost.j2 k ns t c o (i : Int) true false) (fun k => by rw [wireglassref25_Lost.l1, if_neg (by omega), if_pos (by omega), if_pos (by omega), hn, if_pos c0]; rfl) ?_
        exact Ev.step (fun k => by rw [wireglassref25_Lost.j2, if_neg (by decide), if_pos rfl, if_pos (by omega), if_pos (by omega), hn, next64 (by omega)]) ih
      · refine Ev.step (f := fun k => wireglassref25_Lost.j2 k ns t c o (i : Int) true false) (fun k => by rw [wireglassref25_Lost.l1, if_neg (by omega), if_pos (by omega), if_pos (by omega), hn, if_neg c0]) ?_
        exact Ev.step (fun k => by rw [wireglassref25_Lost.j2, if_neg (by decide), if_pos rfl, if_pos (by omega), if_pos (by omega), hn, next64 (by omega)]) ih
    | false =>
      have hm := of_decide_eq_false hb.symm
      by_cases c0 : n ≥ 0
      · rw [if_pos ⟨c0, hm⟩]
        refine Ev.step (f := fun k => wireglassref25_Lost.j2 k ns t c o (i : Int) false true) (fun k => by rw [wireglassref25_Lost.l1, if_neg (by omega), if_pos (by omega), if_pos (by omega), hn, if_pos c0]; rfl) ?_
        by_cases c1 : n < t
        · rw [if_pos (Or.inl c1)]
          exact Ev.step (fun k => by rw [wireglassref25_Lost.j2, if_pos rfl, if_neg (by decide), if_pos (by omega), if_pos (by omega), hn, if_pos c1, next64 (by omega)]) (lost_from ns hl d (i + 1) (mx t n) (wrap64 (c + 1)) (wrap64 (o + 1)) (by omega))
        · rw [if_neg (fun h => h.elim c1 hm)]
          exact Ev.step (fun k => by rw [wireglassref25_Lost.j2, if_pos rfl, if_neg (by decide), if_pos (by omega), if_pos (by omega), hn, if_neg c1, next64 (by omega)]) (lost_from ns hl d (i + 1) (mx t n) (wrap64 (c + 1)) o (by omega))
      · rw [if_neg (fun h => c0 h.1)]
        refine Ev.step (f := fun k => wireglassref25_Lost.j2 k ns t c o (i : Int) false false) (fun k => by rw [wireglassref25_Lost.l1, if_neg (by omega), if_pos (by omega), if_pos (by omega), hn, if_neg c0]) ?_
        by_cases c1 : n < t
        · rw [if_pos (Or.inl c1)]
          exact Ev.step (fun k => by rw [wireglassref25_Lost.j2, if_neg (by decide), if_neg (by decide), if_pos (by omega), if_pos (by omega), hn, if_pos c1, next64 (by omega)]) (lost_from ns hl d (i + 1) (mx t n) c (wrap64 (o + 1)) (by omega))
        · rw [if_neg (fun h => h.elim c1 hm)]
          exact Ev.step (fun k => by rw [wireglassref25_Lost.j2, if_neg (by decide), if_neg (by decide), if_pos (by omega), if_pos (by omega), hn, if_neg c1, next64 (by omega)]) (lost_from ns hl d (i + 1) (mx t n) c o (by omega))
/-- The first number is nought: that one side begins below it makes no odds. -/
theorem lost_first (r : List Int) : lostFrom (0 :: r) [] (-1) 0 0 = lostFrom (0 :: r) [] 0 0 0 := by
  rw [lostFrom, lostFrom]
  congr 1
theorem lost_ev (l : List Smp) : ∃ v, Ev (fun k => voice_Lost.f k l) v ∧ Ev (fun k => wireglassref25_Lost.f k l) v := by
  unfold voice_Lost.f wireglassref25_Lost.f
  by_cases c1 : l.length ≤ 200
  · have hf := frames_ev c1
    cases hok : l.all sOk with
    | true =>
      rw [hok, if_pos rfl] at hf
      have ha : voice_asked.f l 1 = some 0 := by
        unfold voice_asked.f
        rw [if_neg (by omega), if_neg (by omega), if_neg (by omega), if_pos hok]
      by_cases c2 : l.length = 0
      · refine ⟨(0, 0, 0, 0), ?_, ?_⟩
        · refine Ev.congr (fun k => ?_) (Ev.now _)
          rw [ha, Option.bind_some, if_pos rfl, if_pos (by omega)]
        · exact Ev.bind hf (Ev.if_pos rfl (Ev.if_pos (by omega) (Ev.now _)))
      · obtain ⟨r, h1, h2, h3⟩ := numbers_ev l c1 hok c2
        refine ⟨lostFrom (0 :: r) [] 0 0 0, ?_, ?_⟩
        · rw [← lost_first]
          refine Ev.congr (f := fun k => (voice_numbers.f k l).bind fun ns => some (lostFrom ns [] (-1) 0 0)) (fun k => ?_) (Ev.bind h1 (Ev.now _))
          rw [ha, Option.bind_some, if_pos rfl, if_neg (by omega)]
        · exact Ev.bind hf (Ev.if_pos rfl (Ev.if_neg (by omega) (Ev.bind h2 (lost_from (0 :: r) (by omega) (0 :: r).length 0 0 0 0 (by omega)))))
    | false =>
      rw [hok, if_neg (by decide)] at hf
      refine ⟨(0, 0, 0, 1), ?_, ?_⟩
      · refine Ev.congr (fun k => ?_) (Ev.now _)
        unfold voice_asked.f
        rw [if_neg (by omega), if_neg (by omega), if_neg (by omega), if_neg (by rw [hok]; decide), Option.bind_some, if_neg (by decide)]
      · exact Ev.bind hf (Ev.if_neg (by decide) (Ev.now _))
  · refine ⟨(0, 0, 0, 3), ?_, ?_⟩
    · refine Ev.congr (fun k => ?_) (Ev.now _)
      unfold voice_asked.f
      rw [if_pos (by omega), Option.bind_some, if_neg (by decide)]
    · exact Ev.bind (frames_big (by omega)) (Ev.if_neg (by decide) (Ev.now _))
theorem VoiceJitters (l : List Smp) (a : Int) (hl : l.length ≤ 140737488351232) : ∃ k, wireglasslaw25_VoiceJitters.f k l a = some true := by
  refine Ev.rounds (g := fun k => wireglasslaw25_VoiceJitters.f k l a) ?_
  unfold wireglasslaw25_VoiceJitters.f
  obtain ⟨b, hb⟩ := over_ev l hl
  refine Ev.bind hb ?_
  cases b with
  | true => exact Ev.if_pos rfl (Ev.bind knownj_ev (Ev.now _))
  | false =>
    obtain ⟨v, e, h1, h2, h3⟩ := jitter_ev l a
    obtain ⟨x, h4, h5⟩ := lost_ev l
    refine Ev.if_neg (by decide) (Ev.bind h1 (Ev.bind h2 (Ev.bind h4 (Ev.bind h5 (Ev.bind (samej_ev v (by omega)) ?_)))))
    exact Ev.if_pos rfl (Ev.if_pos rfl (Ev.if_pos rfl (Ev.if_pos rfl (Ev.if_pos rfl (Ev.if_pos rfl (Ev.bind knownj_ev (Ev.now _)))))))
end Go.Proofs.Ytcinmodpfdehpaa.Pure
