/- A text without its spaces: what the library's replacing gives, in plain Lean; and how many bytes digits are of. Conditions: none. -/
import Derived.Test.YtlilcbpcjmcfbaaDoorE8
import Derived.Lib.IndexBytes
import Derived.Lib.IndexLaws
namespace Go.Proofs.YtlilcbpcjmcfbaaDoor.Pure
open Go.RowKit Go.Shelf Go.Proofs.YtlilcbpcjmcfbaaDoor.D Go.Proofs.YtlilcbpcjmcfbaaDoor.Hand Go.Proofs.YtlilcbpcjmcfbaaDoorW.PrintWords Go.Proofs.YtlilcbpcjmcfbaaDoorW.PrintLast Go.Proofs.YtlilcbpcjmcfbaaDoorW.PrintMore
set_option linter.unusedVariables false
theorem filt_none {c : UInt8} : ∀ {s : List UInt8}, (∀ x ∈ s, x ≠ c) → s.filter (fun x => x != c) = s := fun {s} h =>
  List.filter_eq_self.2 fun x hx => by simp [h x hx]
theorem replK_filt (c : UInt8) : ∀ (k : Nat) (s : List UInt8), s.count c ≤ k → Lib.replaceK [c] [] k s = s.filter (fun x => x != c)
  | 0, s, h => by
    have h0 : s.count c = 0 := by omega
    rw [Lib.replaceK, filt_none]
    intro x hx e
    exact List.count_eq_zero.1 h0 (e ▸ hx)
  | k + 1, s, h => by
    rw [Lib.replaceK, Lib.index_one]
    by_cases c0 : Lib.indexByte s c = -1
    · rw [c0]
      rw [if_pos (by decide), filt_none]
      intro x hx e
      obtain ⟨j, hj, e2⟩ := List.mem_iff_getElem.1 hx
      exact Lib.indexByte_none c0 j (by rw [List.getElem?_eq_getElem hj, e2, e])
    · have hge := Lib.indexByte_ge s c
      obtain ⟨i, hi⟩ : ∃ i : Nat, Lib.indexByte s c = i := ⟨(Lib.indexByte s c).toNat, by omega⟩
      obtain ⟨h1, h2⟩ := Lib.indexByte_some hi
      obtain ⟨hl, he⟩ := List.getElem?_eq_some_iff.1 h1
      rw [hi, if_neg (by simp), Int.toNat_natCast, List.append_nil, List.length_singleton]
      have hs : s = s.take i ++ c :: s.drop (i + 1) := by
        conv => lhs; rw [← List.take_append_drop i s, List.drop_eq_getElem_cons hl, he]
      have hcnt : (s.drop (i + 1)).count c ≤ k := by
        rw [hs, List.count_append, List.count_cons_self] at h
        omega
      have e1 : (s.take i).filter (fun x => x != c) = s.take i := by
        refine filt_none fun x hx e => ?_
        obtain ⟨j, hj, e2⟩ := List.mem_iff_getElem.1 hx
        rw [List.length_take] at hj
        rw [List.getElem_take] at e2
        exact h2 j (by omega) (by rw [List.getElem?_eq_getElem (by omega), e2, e])
      rw [replK_filt c k _ hcnt]
      conv => rhs; rw [hs]
      rw [List.filter_append, e1, List.filter_cons_of_neg (by simp)]
theorem rmSp_eq (s : ByteArray) : rmSp s = ⟨(s.data.toList.filter (fun x => x != 32)).toArray⟩ := by
  unfold rmSp Lib.replaceAll Lib.replace
  rw [if_neg (by decide)]
  congr 2
  refine replK_filt 32 _ _ ?_
  unfold Lib.replaceNum
  rw [if_pos (.inl (by decide)), Lib.count_one]
  exact Nat.le_refl _
theorem rmSp_size (s : ByteArray) (h : s.size ≤ 1000) : (rmSp s).size ≤ 1000000 := by
  rw [rmSp_eq, Lib.size_eq]
  have h1 := List.length_filter_le (fun x => x != 32) s.data.toList
  rw [Lib.size_eq] at h
  show (List.filter (fun x => x != 32) s.data.toList).length ≤ 1000000
  omega
theorem unhexL_len (s : ByteArray) : ∀ (d i : Nat) (acc : List Int), (unhexL s d i acc).1.length ≤ acc.length + d
  | 0, i, acc => Nat.le_refl _
  | d + 1, i, acc => by
    unfold unhexL
    split
    · simp
    · split
      · simp
      · have := unhexL_len s d (i + 2) (acc ++ [16 * digV (bt s (i : Int)) + digV (bt s ((i + 1 : Nat) : Int))])
        rw [List.length_append, List.length_singleton] at this
        omega
theorem unhexS_len (s : ByteArray) : (unhexS s).1.length ≤ s.size := by
  unfold unhexS
  split
  · have := unhexL_len s (s.size / 2) 0 []
    rw [List.length_nil] at this
    omega
  · simp
end Go.Proofs.YtlilcbpcjmcfbaaDoor.Pure
