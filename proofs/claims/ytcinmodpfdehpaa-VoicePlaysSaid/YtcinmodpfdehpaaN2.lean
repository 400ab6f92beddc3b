/- Frames of sound played by their numbers, in plain Lean: both sides play and miss alike; the law. Conditions: as each lemma says. -/
import Derived.Test.YtcinmodpfdehpaaN1
import Derived.Test.YtcinmodpfdehpaaPx4
import Derived.Test.YtcinmodpfdehpaaPx5
import Derived.Test.YtcinmodpfdehpaaPx7
import Derived.Test.YtcinmodpfdehpaaPx8
import Derived.Test.YtcinmodpfdehpaaPx9
namespace Go.Proofs.Ytcinmodpfdehpaa.Pure
open Go.RowKit Go.Proofs.Ytcinmodpfdehpaa.P Go.Proofs.YtcinmodpfdehpaaW.PrintWords Go.Proofs.YtcinmodpfdehpaaW.PrintLast Go.Proofs.YtcinmodpfdehpaaW.PrintMore Hand
set_option linter.unusedVariables false
theorem rd_last {xs : List Int} {y : Int} : rd (xs ++ [y]) (((xs ++ [y]).length : Int) - 1) = y := by
  rw [List.length_append, List.length_singleton, show (((xs.length + 1 : Nat) : Int) - 1) = (xs.length : Int) by omega]
  unfold rd
  rw [Int.toNat_natCast, List.getD_eq_getElem?_getD, List.getElem?_append_right (Nat.le_refl _), Nat.sub_self]
  rfl
theorem pad_step {n : Nat} {xs : List Int} (h : xs.length < n) : padN n (xs ++ [rd xs ((xs.length : Int) - 1)]) = padN n xs := by
  unfold padN
  rw [rd_last, List.length_append, List.length_singleton, List.append_assoc, show n - xs.length = (n - (xs.length + 1)) + 1 by omega, List.replicate_succ]
  rfl
theorem pad_none {n : Nat} {xs : List Int} (h : n ≤ xs.length) : padN n xs = xs.take n := by
  unfold padN
  rw [show n - xs.length = 0 by omega, List.replicate_zero, List.append_nil]
/-- A row made long enough, by the other side. -/
theorem pad_from (n : Nat) (hn : n ≤ 255) : ∀ (d : Nat) (xs : List Int), n ≤ xs.length + d → 0 < xs.length → xs.length ≤ 1000 → Ev (fun k => wireglassref25_sounds.l0 k (n : Int) xs) (padN n xs, true)
  | d, xs, h, h0, h1 => by
    by_cases c : xs.length < n
    · cases d with
      | zero => omega
      | succ d =>
        have ih := pad_from n hn d (xs ++ [rd xs ((xs.length : Int) - 1)]) (by rw [List.length_append, List.length_singleton]; omega) (by rw [List.length_append, List.length_singleton]; omega) (by rw [List.length_append, List.length_singleton]; omega)
        rw [pad_step c] at ih
        refine Ev.step (fun k => ?_) ih
        rw [wireglassref25_sounds.l0, if_pos (by omega), w64 (by omega) (by omega), if_pos (by omega), if_pos (by omega), if_pos (by omega)]
    · rw [pad_none (by omega)]
      refine Ev.step (f := fun _ => some (xs.take n, true)) (fun k => ?_) (Ev.now _)
      rw [wireglassref25_sounds.l0, if_neg (by omega), if_pos (by omega), if_pos (by omega), Int.toNat_natCast]
theorem sounds_ev (n : Nat) (hn : n ≤ 255) {b row : List Int} {e : Int} (h : voice_Unframe.f b = some (row, e)) : Ev (fun k => wireglassref25_sounds.f k b (n : Int)) (if e = 0 then (padN n row, true) else ([], false)) := by
  unfold wireglassref25_sounds.f wireglassref25_Unframe.f
  rw [h]
  refine Ev.congr (f := fun k => if e = 0 then wireglassref25_sounds.l0 k (n : Int) row else some ([], false)) (fun k => by rw [Option.bind_some]) ?_
  by_cases c : e = 0
  · rw [if_pos c]
    rcases unf_len h with h2 | h2
    · exact absurd c h2
    · exact Ev.if_pos c (pad_from n hn n row (by omega) h2.1 (by omega))
  · rw [if_neg c]
    exact Ev.if_neg c (Ev.now _)
section
variable (l : List Smp) (ns : List Int) (n : Nat) (a2 a3 T : Int)
/-- What is played for one number, by the other side's search. -/
theorem find_from (hl : ns.length = l.length) (h2 : l.length ≤ 200) (m : Nat) (out gone last : List Int) (due : Int) {R : List Int × List Int × Int} : ∀ (d i : Nat), i + d = ns.length →
    (firstI (ns.drop i) (m : Int) i = none → Ev (fun k => wireglassref25_Play.j4 k l n a2 a3 ns T out gone last m false) R) →
    (∀ j, firstI (ns.drop i) (m : Int) i = some j → Ev (fun k => (wireglassref25_sounds.f k ((rd_T39 l (j : Int)).f3) n).bind fun bt => (if bt.2 = true then (if ((rd_T39 l (j : Int)).f2) ≤ due then (wireglassref25_Play.j4 k l n a2 a3 ns T out gone bt.1 m true) else (wireglassref25_Play.j4 k l n a2 a3 ns T out gone last m false)) else (wireglassref25_Play.j4 k l n a2 a3 ns T out gone last m false))) R) →
    Ev (fun k => wireglassref25_Play.l2 k l n a2 a3 ns T out gone last m due false (i : Int)) R
  | 0, i, h, hn, hs => by
    refine Ev.step (fun k => ?_) (hn (by rw [List.drop_eq_nil_of_le (by omega)]; rfl))
    rw [wireglassref25_Play.l2, if_neg (by omega)]
  | d + 1, i, h, hn, hs => by
    have hi : i < ns.length := by omega
    have hd : ns.drop i = rd ns (i : Int) :: ns.drop (i + 1) := by
      rw [List.drop_eq_getElem_cons hi]
      congr 1
      unfold rd
      rw [Int.toNat_natCast, List.getD_eq_getElem?_getD, List.getElem?_eq_getElem hi]
      rfl
    rw [hd, firstI] at hn hs
    by_cases c : rd ns (i : Int) = (m : Int)
    · rw [if_pos c] at hs
      refine Ev.step (fun k => ?_) (hs i rfl)
      rw [wireglassref25_Play.l2, if_pos (by omega), if_pos (by omega), if_pos c, if_pos (by omega)]
    · rw [if_neg c] at hn hs
      refine Ev.step (fun k => ?_) (find_from hl h2 m out gone last due d (i + 1) (by omega) hn hs)
      rw [wireglassref25_Play.l2, if_pos (by omega), if_pos (by omega), if_neg c, next64 (by omega)]
/-- What stands for a lost frame. -/
theorem half_from (hn : n ≤ 255) (m : Nat) (hm : m ≤ 80000) (out gone last : List Int) (ho : out.length ≤ 80000) (hla : last.length = n) {R : List Int × List Int × Int} (hR : Ev (fun k => wireglassref25_Play.l1 k l n a2 a3 ns T (out ++ last.map hvP) gone (last.map hvP) ((m + 1 : Nat) : Int)) R) : ∀ (d i : Nat), i + d = n →
    Ev (fun k => wireglassref25_Play.l3 k l n a2 a3 ns T out gone last (m : Int) ((last.take i).map hvP) (i : Int)) R
  | 0, i, h => by
    have e : last.take i = last := List.take_of_length_le (by omega)
    rw [e]
    refine Ev.step (fun k => ?_) hR
    rw [wireglassref25_Play.l3, if_neg (by omega), if_pos (by rw [List.length_map]; omega), next64 (by omega)]
  | d + 1, i, h => by
    have hi : i < last.length := by omega
    have ih := half_from hn m hm out gone last ho hla hR d (i + 1) (by omega)
    have e : rd last (i : Int) = last[i] := by
      unfold rd
      rw [Int.toNat_natCast, List.getD_eq_getElem?_getD, List.getElem?_eq_getElem hi]
      rfl
    rw [List.take_succ_eq_append_getElem hi, List.map_append, ← e] at ih
    refine Ev.step (fun k => ?_) ih
    rw [wireglassref25_Play.l3, if_pos (by omega), if_pos (by omega), if_pos (by omega), if_pos (by rw [List.length_map, List.length_take]; omega), next64 (by omega)]
    rfl
/-- The other side's loop over the numbers. -/
theorem play_from (hl : ns.length = l.length) (h2 : l.length ≤ 200) (h0 : 0 < l.length) (hb : ∀ s ∈ l, vBytes s.f3 = true) (hn : 1 ≤ n ∧ n ≤ 255) (ha : a3 ≠ 0) (tn : Nat) (hT : T = (tn : Int)) (hbig : n * (tn + 1) ≤ 80000) : ∀ (d m : Nat) (last out gone : List Int), m + d = tn + 1 → last.length = n → out.length + n * d ≤ 80000 → gone.length ≤ m →
    Ev (fun k => wireglassref25_Play.l1 k l n a2 a3 ns T out gone last (m : Int)) ((playN l ns n a2 a3 d m last out gone).1, (playN l ns n a2 a3 d m last out gone).2, 0)
  | 0, m, last, out, gone, h, hla, ho, hg => by
    refine Ev.step (f := fun _ => some (out, gone, 0)) (fun k => ?_) (Ev.now _)
    rw [wireglassref25_Play.l1, if_neg (by omega)]
  | d + 1, m, last, out, gone, h, hla, ho, hg => by
    have htn : tn + 1 ≤ 80000 := Nat.le_trans (Nat.le_mul_of_pos_left _ hn.1) hbig
    rw [Nat.mul_succ] at ho
    have hlost : playRow l (firstI ns (m : Int) 0) n (dueE (smI l 0).f2 n a2 a3 m) = none → Ev (fun k => wireglassref25_Play.j4 k l n a2 a3 ns T out gone last m false) ((playN l ns n a2 a3 (d + 1) m last out gone).1, (playN l ns n a2 a3 (d + 1) m last out gone).2, 0) := fun hp => by
      rw [playN_lose hp]
      have ih := play_from hl h2 h0 hb hn ha tn hT hbig d (m + 1) (last.map hvP) (out ++ last.map hvP) (gone ++ [(m : Int)]) (by omega) (by rw [List.length_map]; exact hla) (by rw [List.length_append, List.length_map]; omega) (by rw [List.length_append, List.length_singleton]; omega)
      have h3 := half_from l ns n a2 a3 T hn.2 m (by omega) out (gone ++ [(m : Int)]) last (by omega) hla ih n 0 (by omega)
      rw [List.take_zero, List.map_nil] at h3
      refine Ev.step (fun k => ?_) h3
      rw [wireglassref25_Play.j4, if_neg (by decide), if_pos (by omega)]
      rfl
    refine Ev.step (fun k => by rw [wireglassref25_Play.l1, if_pos (by omega), if_pos (by omega), if_neg ha]) ?_
    have hd0 : wrap64 ((wrap64 (((rd_T39 l 0).f2) + a2)) + (wrap64 (Int.tdiv (wrap64 ((wrap64 ((m : Int) * (n : Int))) * 1000000)) a3))) = dueE (smI l 0).f2 n a2 a3 m := rfl
    rw [hd0]
    obtain ⟨due, hdue⟩ : ∃ due, dueE (smI l 0).f2 n a2 a3 m = due := ⟨_, rfl⟩
    rw [hdue] at hlost ⊢
    refine find_from l ns n a2 a3 T hl h2 m out gone last due ns.length 0 (by omega) (fun hf => hlost (by rw [List.drop_zero] at hf; rw [hf]; rfl)) (fun j hf => ?_)
    rw [List.drop_zero] at hf
    have hj := firstI_lt (m : Int) ns 0 j hf
    obtain ⟨row, e, hU⟩ := unf_some (hb _ (smI_mem (l := l) (i := j) (by omega)))
    have hs := sounds_ev n hn.2 hU
    by_cases c : e = 0
    · rw [if_pos c] at hs
      by_cases c2 : (smI l j).f2 ≤ due
      · have hp : playRow l (firstI ns (m : Int) 0) n (dueE (smI l 0).f2 n a2 a3 m) = some (padN n row) := by rw [hf, hdue]; exact playRow_ok hU ⟨c, c2⟩
        rw [playN_put hp]
        have ih := play_from hl h2 h0 hb hn ha tn hT hbig d (m + 1) (padN n row) (out ++ padN n row) gone (by omega) padN_length (by rw [List.length_append, padN_length]; omega) (by omega)
        refine Ev.bind hs (Ev.if_pos rfl (Ev.if_pos c2 (Ev.step (fun k => ?_) ih)))
        rw [wireglassref25_Play.j4, if_pos rfl, if_pos (by rw [padN_length]; omega), next64 (by omega)]
      · exact Ev.bind hs (Ev.if_pos rfl (Ev.if_neg c2 (hlost (by rw [hf]; exact playRow_bad hU (fun h => c2 h.2)))))
    · rw [if_neg c] at hs
      exact Ev.bind hs (Ev.if_neg (by decide) (hlost (by rw [hf]; exact playRow_bad hU (fun h => c h.1))))
/-- The other side's search for the greatest number. -/
theorem top_from (h2 : ns.length ≤ 200) {R : List Int × List Int × Int} (hR : Ev (fun k => if (wrap64 ((wrap64 (ns.foldl mx 0 + 1)) * (n : Int))) > 80000 then (some (([] : List Int), ([] : List Int), 3)) else (if (0 : Int) ≤ (n : Int) then (if ((n : Int) : Int).toNat ≤ 35184372088832 then (wireglassref25_Play.l1 k l n a2 a3 ns (ns.foldl mx 0) ([] : List Int) ([] : List Int) (List.replicate ((n : Int) : Int).toNat 0) 0) else (none)) else (none))) R) :
    ∀ (d i : Nat) (t : Int), i + d = ns.length → (ns.drop i).foldl mx t = ns.foldl mx 0 → Ev (fun k => wireglassref25_Play.l0 k l n a2 a3 ns t (i : Int)) R
  | 0, i, t, h, ht => by
    rw [List.drop_eq_nil_of_le (by omega), List.foldl_nil] at ht
    rw [← ht] at hR
    refine Ev.step (fun k => ?_) hR
    rw [wireglassref25_Play.l0, if_neg (by omega)]
  | d + 1, i, t, h, ht => by
    have hi : i < ns.length := by omega
    have hd : ns.drop i = rd ns (i : Int) :: ns.drop (i + 1) := by
      rw [List.drop_eq_getElem_cons hi]
      congr 1
      unfold rd
      rw [Int.toNat_natCast, List.getD_eq_getElem?_getD, List.getElem?_eq_getElem hi]
      rfl
    rw [hd, List.foldl_cons] at ht
    refine Ev.step (fun k => ?_) (top_from h2 hR d (i + 1) (mx t (rd ns (i : Int))) (by omega) ht)
    rw [wireglassref25_Play.l0, if_pos (by omega), if_pos (by omega), next64 (by omega)]
end
theorem asked_is {l : List Smp} {r : Int} (h : 1 ≤ r ∧ r ≤ 1000000) : voice_asked.f l r = some (if (l.length : Int) > 200 then 3 else if l.all sOk = true then 0 else 1) := by
  unfold voice_asked.f
  rw [if_neg (show ¬ r < 1 by omega), if_neg (show ¬ r > 1000000 by omega)]
theorem playN_len (l : List Smp) (ns : List Int) (n : Nat) (a2 a3 : Int) : ∀ (d m : Nat) (last out gone : List Int), last.length = n → (playN l ns n a2 a3 d m last out gone).1.length = out.length + n * d ∧ (playN l ns n a2 a3 d m last out gone).2.length ≤ gone.length + d
  | 0, m, last, out, gone, h => by rw [playN]; exact ⟨by rw [Nat.mul_zero]; rfl, Nat.le_refl _⟩
  | d + 1, m, last, out, gone, h => by
    cases hp : playRow l (firstI ns (m : Int) 0) n (dueE (smI l 0).f2 n a2 a3 m) with
    | none =>
      rw [playN_lose hp]
      have ih := playN_len l ns n a2 a3 d (m + 1) (last.map hvP) (out ++ last.map hvP) (gone ++ [(m : Int)]) (by rw [List.length_map]; exact h)
      rw [List.length_append, List.length_map, List.length_append, List.length_singleton] at ih
      rw [Nat.mul_succ]
      omega
    | some row =>
      rw [playN_put hp]
      have hr : row.length = n := by
        unfold playRow at hp
        repeat' split at hp
        all_goals first
          | (cases hp; done)
          | (cases hp; exact padN_length)
      have ih := playN_len l ns n a2 a3 d (m + 1) row (out ++ row) gone hr
      rw [List.length_append] at ih
      rw [Nat.mul_succ]
      omega
theorem play_ev (l : List Smp) (a1 a2 a3 : Int) (hb : ∀ s ∈ l, vBytes s.f3 = true) : ∃ v x e, Ev (fun k => voice_Play.f k l a1 a2 a3) (v, x, e) ∧ Ev (fun k => wireglassref25_Play.f k l a1 a2 a3) (v, x, e) ∧ v.length ≤ 1000000 ∧ x.length ≤ 1000000 := by
  unfold voice_Play.f wireglassref25_Play.f
  have hj : Ev (fun k => wireglassref25_Play.j0 k l a1 a2 a3 true) ([], [], 1) := Ev.step (f := fun _ => some ([], [], 1)) (fun k => by rw [wireglassref25_Play.j0, if_pos rfl]) (Ev.now _)
  by_cases hbad : a1 < 1 ∨ 255 < a1 ∨ a2 < 0 ∨ 1000000000000000 < a2 ∨ a3 < 1 ∨ 1000000 < a3
  · refine ⟨[], [], 1, Ev.if_pos hbad (Ev.now _), ?_, by simp, by simp⟩
    by_cases c1 : a1 < 1
    · exact Ev.if_pos c1 hj
    refine Ev.if_neg c1 ?_
    by_cases c2 : a1 > 255
    · exact Ev.if_pos c2 hj
    refine Ev.if_neg c2 ?_
    by_cases c3 : a2 < 0
    · exact Ev.if_pos c3 hj
    refine Ev.if_neg c3 ?_
    by_cases c4 : a2 > 1000000000000000
    · exact Ev.if_pos c4 hj
    refine Ev.if_neg c4 (Ev.congr (fun k => ?_) hj)
    rw [rate_is, Option.bind_some, decide_eq_false (by omega)]
    rfl
  have hr : 1 ≤ a3 ∧ a3 ≤ 1000000 := by omega
  suffices H : ∃ v x e, Ev (fun k => (voice_asked.f l a3).bind fun e => if e = 0 then (if (l.length : Int) = 0 then some ([], [], 0) else (voice_numbers.f k l).bind fun ns => if playOk l ns then some (playEnd l ns a1 a2 a3) else none) else some ([], [], e)) (v, x, e) ∧ Ev (fun k => (wireglassref25_frames.f k l).bind fun t212 => (if t212 = 0 then (if (l.length : Int) = 0 then (some (([] : List Int), ([] : List Int), 0)) else ((wireglassref25_numbers.f k l).bind fun t213 => (wireglassref25_Play.l0 k l a1 a2 a3 t213 0 0))) else (some (([] : List Int), ([] : List Int), t212)))) (v, x, e) ∧ v.length ≤ 1000000 ∧ x.length ≤ 1000000 by
    obtain ⟨v, x, e, h1, h2, h3, h4⟩ := H
    refine ⟨v, x, e, Ev.if_neg hbad h1, ?_, h3, h4⟩
    refine Ev.if_neg (by omega) (Ev.if_neg (by omega) (Ev.if_neg (by omega) (Ev.if_neg (by omega) ?_)))
    refine Ev.congr (f := fun k => wireglassref25_Play.j0 k l a1 a2 a3 false) (fun k => ?_) (Ev.step (fun k => ?_) h2)
    · rw [rate_is, Option.bind_some, decide_eq_true hr]
      rfl
    · rw [wireglassref25_Play.j0, if_neg (by decide)]
  rw [asked_is hr]
  by_cases c1 : l.length ≤ 200
  · have hf := frames_ev c1
    cases hok : l.all sOk with
    | false =>
      rw [hok, if_neg (by decide)] at hf
      refine ⟨[], [], 1, Ev.congr (fun k => ?_) (Ev.now _), Ev.bind hf (Ev.if_neg (by decide) (Ev.now _)), by simp, by simp⟩
      rw [if_neg (by omega), if_neg (by decide), Option.bind_some, if_neg (by decide)]
    | true =>
      rw [hok, if_pos rfl] at hf
      by_cases c2 : l.length = 0
      · refine ⟨[], [], 0, Ev.congr (fun k => ?_) (Ev.now _), Ev.bind hf (Ev.if_pos rfl (Ev.if_pos (by omega) (Ev.now _))), by simp, by simp⟩
        rw [if_neg (by omega), if_pos rfl, Option.bind_some, if_pos rfl, if_pos (by omega)]
      obtain ⟨r, h1, h2, h3, h4⟩ := numbers_ev l c1 hok c2
      obtain ⟨ns, hns⟩ : ∃ ns, 0 :: r = ns := ⟨_, rfl⟩
      rw [hns] at h1 h2 h3 h4
      have hpo : playOk l ns := ⟨hb, h3, fun x hx => by have := h4 x hx; omega⟩
      obtain ⟨n, rfl⟩ : ∃ n : Nat, a1 = (n : Int) := ⟨a1.toNat, by omega⟩
      have htb := topOf_bd ns 0 (fun x hx => by have := h4 x hx; omega) (by decide) (by decide)
      obtain ⟨tn, htn⟩ : ∃ tn : Nat, topOf ns = (tn : Int) := ⟨(topOf ns).toNat, by unfold topOf; omega⟩
      have htn2 : ns.foldl mx 0 = (tn : Int) := htn
      rw [htn2] at htb
      have p0 : 0 ≤ ((tn : Int) + 1) * (n : Int) := Int.mul_nonneg (by omega) (by omega)
      have p1 : ((tn : Int) + 1) * (n : Int) ≤ 1000000001 * 255 := Int.mul_le_mul (by omega) (by omega) (by omega) (by omega)
      have pw : wrap64 (wrap64 ((tn : Int) + 1) * (n : Int)) = ((tn : Int) + 1) * (n : Int) := by
        rw [w64 (n := (tn : Int) + 1) (by omega) (by omega)]
        exact w64 (Int.le_trans (by decide) p0) (Int.le_trans p1 (by decide))
      have hleft : ∀ R, playEnd l ns n a2 a3 = R → Ev (fun k => (some (if (l.length : Int) > 200 then 3 else if true = true then 0 else 1)).bind fun e => if e = (0 : Int) then (if (l.length : Int) = 0 then some ([], [], 0) else (voice_numbers.f k l).bind fun ns => if playOk l ns then some (playEnd l ns n a2 a3) else none) else some ([], [], e)) R := fun R hR => by
        rw [if_neg (by omega), if_pos rfl]
        refine Ev.congr (f := fun k => (voice_numbers.f k l).bind fun ns => if playOk l ns then some (playEnd l ns n a2 a3) else none) (fun k => ?_) (Ev.bind h1 (Ev.if_pos hpo ?_))
        · rw [Option.bind_some, if_pos rfl, if_neg (by omega)]
        · rw [hR]; exact Ev.now _
      by_cases c80 : 80000 < ((tn : Int) + 1) * (n : Int)
      · refine ⟨[], [], 3, hleft _ ?_, ?_, by simp, by simp⟩
        · unfold playEnd
          rw [htn, if_pos c80]
        · refine Ev.bind hf (Ev.if_pos rfl (Ev.if_neg (by omega) (Ev.bind h2 (top_from l ns n a2 a3 (by omega) ?_ ns.length 0 0 (by omega) (by rw [List.drop_zero])))))
          rw [htn2, pw]
          exact Ev.if_pos c80 (Ev.now _)
      · have hbig : n * (tn + 1) ≤ 80000 := by
          have h5 : ((n * (tn + 1) : Nat) : Int) = ((tn : Int) + 1) * (n : Int) := by rw [Int.natCast_mul, Int.mul_comm]; rfl
          omega
        have hlen := playN_len l ns n a2 a3 (tn + 1) 0 (List.replicate n 0) [] [] (by simp)
        rw [List.length_nil] at hlen
        have h8 : tn + 1 ≤ 80000 := Nat.le_trans (Nat.le_mul_of_pos_left _ (by omega)) hbig
        refine ⟨(playN l ns n a2 a3 (tn + 1) 0 (List.replicate n 0) [] []).1, (playN l ns n a2 a3 (tn + 1) 0 (List.replicate n 0) [] []).2, 0, hleft _ ?_, ?_, ?_, ?_⟩
        · unfold playEnd
          rw [htn, if_neg c80, show ((tn : Int) + 1).toNat = tn + 1 by omega, Int.toNat_natCast]
        · refine Ev.bind hf (Ev.if_pos rfl (Ev.if_neg (by omega) (Ev.bind h2 (top_from l ns n a2 a3 (by omega) ?_ ns.length 0 0 (by omega) (by rw [List.drop_zero])))))
          rw [htn2, pw, Int.toNat_natCast]
          exact Ev.if_neg c80 (Ev.if_pos (by omega) (Ev.if_pos (by omega) (play_from l ns n a2 a3 (tn : Int) h3 c1 (by omega) hb (by omega) (by omega) tn rfl hbig (tn + 1) 0 (List.replicate n 0) [] [] (by omega) (by simp) (by rw [List.length_nil]; omega) (Nat.le_refl _))))
        · omega
        · omega
  · refine ⟨[], [], 3, Ev.congr (fun k => ?_) (Ev.now _), Ev.bind (frames_big (by omega)) (Ev.if_neg (by decide) (Ev.now _)), by simp, by simp⟩
    rw [if_pos (by omega), Option.bind_some, if_neg (by decide)]
theorem VoicePlays (l : List Smp) (a1 a2 a3 : Int) (hl : l.length ≤ 140737488351232) (hw : ∀ s ∈ l, ∀ x ∈ s.f3, (Lit.int .u8 x).wf = true) : ∃ k, wireglasslaw25_VoicePlays.f k l a1 a2 a3 = some true := by
  refine Ev.rounds (g := fun k => wireglasslaw25_VoicePlays.f k l a1 a2 a3) ?_
  unfold wireglasslaw25_VoicePlays.f
  obtain ⟨b, hb⟩ := over_ev l hl
  have hy : ∀ s ∈ l, vBytes s.f3 = true := fun s hs => by
    unfold vBytes
    rw [List.all_eq_true]
    intro x hx
    have := hw s hs x hx
    simp [Lit.wf, IntKind.min, IntKind.max, IntKind.signed, IntKind.bits] at this
    exact decide_eq_true (by omega)
  refine Ev.bind hb ?_
  cases b with
  | true => exact Ev.if_pos rfl (Ev.bind knownj_ev (Ev.now _))
  | false =>
    obtain ⟨v, x, e, h1, h2, h3, h4⟩ := play_ev l a1 a2 a3 hy
    exact Ev.if_neg (by decide) (Ev.bind h1 (Ev.bind h2 (Ev.bind (samej_ev v (by omega)) (Ev.if_pos rfl (Ev.bind (samej_ev x (by omega)) (Ev.if_pos rfl (Ev.if_pos rfl (Ev.bind knownj_ev (Ev.now _)))))))))
end Go.Proofs.Ytcinmodpfdehpaa.Pure
