/- The reference's reader of a dump answers as the program's, in plain Lean. Conditions: a text of at most 100000 bytes. -/
import Derived.Test.YtlilcbpcjmcfbaaDoorE10
import Derived.Test.YtlilcbpcjmcfbaaDoorE2
import Derived.Test.YtlilcbpcjmcfbaaDoorDx5
namespace Go.Proofs.YtlilcbpcjmcfbaaDoor.Pure
open Go.RowKit Go.Shelf Go.Proofs.YtlilcbpcjmcfbaaDoor.D Go.Proofs.YtlilcbpcjmcfbaaDoor.Hand Go.Proofs.YtlilcbpcjmcfbaaDoorW.PrintWords Go.Proofs.YtlilcbpcjmcfbaaDoorW.PrintLast Go.Proofs.YtlilcbpcjmcfbaaDoorW.PrintMore
set_option linter.unusedVariables false
theorem unhexS_half (s : ByteArray) : (unhexS s).1.length ≤ s.size / 2 := by
  unfold unhexS
  split
  · have := unhexL_len s (s.size / 2) 0 []
    rw [List.length_nil] at this
    omega
  · simp
theorem kk_eq {i : Nat} (h : i < 16) : wrap64 ((wrap64 (6 + (wrap64 (3 * (i : Int))))) + (wrap64 (Int.tdiv (i : Int) 8))) = ((6 + 3 * i + i / 8 : Nat) : Int) := by
  rw [tdiv_pos (by omega), w64 (n := 3 * (i : Int)) (by omega) (by omega), w64 (n := 6 + 3 * (i : Int)) (by omega) (by omega), w64 (n := (i : Int) / 8) (by omega) (by omega), w64 (by omega) (by omega)]
  omega
theorem ba_eq {a b : ByteArray} (h : a.toList = b.toList) : a = b := by
  rw [Lib.toList_data, Lib.toList_data] at h
  rw [← Lib.mk_data a, ← Lib.mk_data b, h]
/-- Some answer comes, and it is one of a reader of dumps. -/
def Ans (s : ByteArray) (g : Nat → Option (List Int × Int)) : Prop := ∃ u, Ev g u ∧ OkD s u.1 u.2
theorem Ans.step {s : ByteArray} {g f : Nat → Option (List Int × Int)} (h : ∀ k, g (k + 1) = f k) (k : Ans s f) : Ans s g := by
  obtain ⟨u, hu, ho⟩ := k
  exact ⟨u, Ev.step h hu, ho⟩
theorem Ans.bad (s : ByteArray) : Ans s fun _ => some ([], 2) := ⟨_, Ev.now _, .inl ⟨rfl, rfl⟩⟩
theorem ref_end (s : ByteArray) (out : List Int) (a : Nat) (ha : s.size ≤ a) (hb : isB out) : Ans s fun k => wireglassref01_Undump.l0 k s out (a : Int) := by
  by_cases c : out.length ≤ 1600
  · have hd := dumpR_ev out hb c
    by_cases e : strOfNums (dumpN out) = s
    · refine ⟨(out, 0), ?_, .inr ⟨rfl, hb, c, e⟩⟩
      refine Ev.step (f := fun k => (wireglassref01_Dump.f k out).bind fun bt147 => (if bt147.2 = 0 then (if bt147.1.toList = s.toList then (some (out, 0)) else (some (([] : List Int), 2))) else (some (([] : List Int), 2)))) (fun k => by rw [wireglassref01_Undump.l0, if_neg (by omega)]) ?_
      refine Ev.bind hd ?_
      rw [if_pos rfl, if_pos (by rw [e])]
      exact Ev.now _
    · refine ⟨([], 2), ?_, .inl ⟨rfl, rfl⟩⟩
      refine Ev.step (f := fun k => (wireglassref01_Dump.f k out).bind fun bt147 => (if bt147.2 = 0 then (if bt147.1.toList = s.toList then (some (out, 0)) else (some (([] : List Int), 2))) else (some (([] : List Int), 2)))) (fun k => by rw [wireglassref01_Undump.l0, if_neg (by omega)]) ?_
      refine Ev.bind hd ?_
      rw [if_pos rfl, if_neg (fun h => e (ba_eq h))]
      exact Ev.now _
  · have hd := dumpR_big out c
    refine ⟨([], 2), ?_, .inl ⟨rfl, rfl⟩⟩
    refine Ev.step (f := fun k => (wireglassref01_Dump.f k out).bind fun bt147 => (if bt147.2 = 0 then (if bt147.1.toList = s.toList then (some (out, 0)) else (some (([] : List Int), 2))) else (some (([] : List Int), 2)))) (fun k => by rw [wireglassref01_Undump.l0, if_neg (by omega)]) ?_
    refine Ev.bind hd ?_
    rw [if_neg (by decide)]
    exact Ev.now _
/-- What comes behind a row. -/
def Next (s : ByteArray) (e n : Nat) : Prop := ∀ out : List Int, isB out → out.length ≤ n → Ans s fun k => wireglassref01_Undump.l0 k s out (wrap64 ((e : Int) + 1))
theorem ref_row (s row : ByteArray) (e n : Nat) (hr : row.size ≤ 1000000) (hn : n ≤ 100000000) (hN : Next s e (n + 16)) : ∀ (d i : Nat) (out : List Int), i + d = 16 → isB out → out.length ≤ n + i → Ans s fun k => wireglassref01_Undump.l2 k s out (e : Int) row (i : Int)
  | 0, i, out, h, hb, hl => by
    refine Ans.step (fun k => ?_) (hN out hb (by omega))
    rw [wireglassref01_Undump.l2, if_neg (by omega)]
  | d + 1, i, out, h, hb, hl => by
    have hi : i < 16 := by omega
    have ek := kk_eq hi
    obtain ⟨kk, hkk⟩ : ∃ kk, 6 + 3 * i + i / 8 = kk := ⟨_, rfl⟩
    rw [hkk] at ek
    have hk2 : kk ≤ 100 := by omega
    have e2 : wrap64 ((kk : Int) + 2) = ((kk + 2 : Nat) : Int) := by rw [w64 (by omega) (by omega)]; omega
    have e1 : wrap64 ((i : Int) + 1) = ((i + 1 : Nat) : Int) := by rw [w64 (by omega) (by omega)]; omega
    have hstop : Ans s fun k => wireglassref01_Undump.j4 k s out (e : Int) row (i : Int) (kk : Int) true := by
      refine Ans.step (fun k => ?_) (hN out hb (by omega))
      rw [wireglassref01_Undump.j4, if_pos rfl]
    by_cases c1 : row.size < kk + 2
    · refine Ans.step (fun k => ?_) hstop
      rw [wireglassref01_Undump.l2, ek, e2, if_pos (by omega), if_pos (by omega)]
    · by_cases c2 : bt row (kk : Int) = 32
      · refine Ans.step (fun k => ?_) hstop
        rw [wireglassref01_Undump.l2, ek, e2, if_pos (by omega), if_neg (by omega), if_pos (by omega), if_pos (by omega), c2]
        rfl
      · have c2b : (bt row (kk : Int) == 32) = false := beq_eq_false_iff_ne.mpr c2
        have hx := unhexR_ev (row.extract kk (kk + 2)) (by rw [ByteArray.size_extract]; omega)
        have hlen := unhexS_half (row.extract kk (kk + 2))
        rw [ByteArray.size_extract] at hlen
        have hgo : Ans s fun k => wireglassref01_Undump.j4 k s out (e : Int) row (i : Int) (kk : Int) false := by
          rcases unhexS_cd (row.extract kk (kk + 2)) with c3 | c3
          · have ih := ref_row s row e n hr hn hN d (i + 1) (out ++ (unhexS (row.extract kk (kk + 2))).1) (by omega) (isB_app hb (unhexS_isB _)) (by rw [List.length_append]; omega)
            obtain ⟨u, hu, ho⟩ := ih
            refine ⟨u, ?_, ho⟩
            refine Ev.step (f := fun k => (wireglassref01_Unhex.f k (row.extract kk (kk + 2))).bind fun bt149 => (if bt149.2 = 0 then (if out.length + bt149.1.length < 140737488355328 then (wireglassref01_Undump.l2 k s (out ++ bt149.1) (e : Int) row (wrap64 ((i : Int) + 1))) else (none)) else (some (([] : List Int), bt149.2)))) (fun k => ?_) ?_
            · rw [wireglassref01_Undump.j4, if_neg (by decide), e2, if_pos (by omega), if_pos (by omega), if_pos (by omega), Int.toNat_natCast, Int.toNat_natCast]
            · refine Ev.bind hx ?_
              rw [c3, e1]
              simp only [if_true]
              exact Ev.if_pos (by omega) hu
          · refine ⟨([], 2), ?_, .inl ⟨rfl, rfl⟩⟩
            refine Ev.step (f := fun k => (wireglassref01_Unhex.f k (row.extract kk (kk + 2))).bind fun bt149 => (if bt149.2 = 0 then (if out.length + bt149.1.length < 140737488355328 then (wireglassref01_Undump.l2 k s (out ++ bt149.1) (e : Int) row (wrap64 ((i : Int) + 1))) else (none)) else (some (([] : List Int), bt149.2)))) (fun k => ?_) ?_
            · rw [wireglassref01_Undump.j4, if_neg (by decide), e2, if_pos (by omega), if_pos (by omega), if_pos (by omega), Int.toNat_natCast, Int.toNat_natCast]
            · refine Ev.bind hx ?_
              rw [c3]
              exact Ev.if_neg (by omega) (Ev.now _)
        refine Ans.step (fun k => ?_) hgo
        rw [wireglassref01_Undump.l2, ek, e2, if_pos (by omega), if_neg (by omega), if_pos (by omega), if_pos (by omega), c2b]
theorem ref_line (s : ByteArray) (hs : s.size ≤ 100000) (out : List Int) (a : Nat) (hb : isB out) (hl : out.length ≤ 16 * a) (hN : ∀ e, a ≤ e → e ≤ s.size → Next s e (16 * a + 16)) : ∀ (d e : Nat), e + d = s.size → a ≤ e → Ans s fun k => wireglassref01_Undump.l1 k s out (a : Int) (e : Int) := by
  have hj : ∀ e, a ≤ e → e ≤ s.size → Ans s fun k => wireglassref01_Undump.j2 k s out (a : Int) (e : Int) := by
    intro e h1 h2
    refine Ans.step (fun k => ?_) (ref_row s (s.extract a e) e (16 * a) (by rw [ByteArray.size_extract]; omega) (by omega) (hN e h1 h2) 16 0 out (by omega) hb (by omega))
    rw [wireglassref01_Undump.j2, if_pos (by omega), if_pos (by omega), if_pos (by omega), Int.toNat_natCast, Int.toNat_natCast]
    rfl
  intro d
  induction d with
  | zero =>
    intro e h1 h2
    refine Ans.step (fun k => ?_) (hj e h2 (by omega))
    rw [wireglassref01_Undump.l1, if_neg (by omega)]
  | succ d ih =>
    intro e h1 h2
    have e1 : wrap64 ((e : Int) + 1) = ((e + 1 : Nat) : Int) := by rw [w64 (by omega) (by omega)]; omega
    by_cases c : bt s (e : Int) = 10
    · refine Ans.step (fun k => ?_) (hj e h2 (by omega))
      rw [wireglassref01_Undump.l1, if_pos (by omega), if_pos (by omega), if_pos c]
    · refine Ans.step (fun k => ?_) (ih (e + 1) (by omega) (by omega))
      rw [wireglassref01_Undump.l1, if_pos (by omega), if_pos (by omega), if_neg c, e1]
theorem ref_all (s : ByteArray) (hs : s.size ≤ 100000) : ∀ (m a : Nat) (out : List Int), s.size - a ≤ m → isB out → out.length ≤ 16 * a → a ≤ s.size + 1 → Ans s fun k => wireglassref01_Undump.l0 k s out (a : Int)
  | 0, a, out, hm, hb, hl, ha => ref_end s out a (by omega) hb
  | m + 1, a, out, hm, hb, hl, ha => by
    by_cases c : a < s.size
    · refine Ans.step (fun k => ?_) (ref_line s hs out a hb hl (fun e h1 h2 out2 hb2 hl2 => ?_) (s.size - a) a (by omega) (Nat.le_refl _))
      · rw [wireglassref01_Undump.l0, if_pos (by omega)]
      · rw [show wrap64 ((e : Int) + 1) = ((e + 1 : Nat) : Int) by rw [w64 (by omega) (by omega)]; omega]
        exact ref_all s hs m (e + 1) out2 (by omega) hb2 (by omega) (by omega)
    · exact ref_end s out a (by omega) hb
theorem ref_ok (s : ByteArray) (hs : s.size ≤ 100000) : Ans s fun k => wireglassref01_Undump.f k s := ref_all s hs s.size 0 [] (by omega) isB_nil (by simp) (by omega)
end Go.Proofs.YtlilcbpcjmcfbaaDoor.Pure
