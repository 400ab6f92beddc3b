/- That the reference's Calls answers with the same lines, in plain Lean. Conditions: as each lemma says. -/
import Derived.Test.YtbloalfgbpgepaaDoorC5
import Derived.Test.YtbloalfgbpgepaaDoorCx2
import Derived.Test.YtbloalfgbpgepaaDoorCx3
import Derived.Test.YtbloalfgbpgepaaDoorCx4
import Derived.Test.YtbloalfgbpgepaaDoorCx5
import Derived.Test.YtbloalfgbpgepaaDoorCx6
namespace Go.Proofs.YtbloalfgbpgepaaDoor.T
open Go Go.RowKit Go.Shelf Go.Proofs.YtbloalfgbpgepaaDoor.C Go.Proofs.YtbloalfgbpgepaaDoorW.PrintWords Go.Proofs.YtbloalfgbpgepaaDoorW.PrintLast Go.Proofs.YtbloalfgbpgepaaDoorW.PrintMore Hand
set_option linter.unusedVariables false
set_option linter.unusedSimpArgs false
theorem tl_eq (s : ByteArray) (a : Array UInt8) : (s.toList == a.toList) = decide (s = ⟨a⟩) := by
  rw [ByteArray.toList_eq, Bool.eq_iff_iff, beq_iff_eq, decide_eq_true_iff]
  exact ⟨fun h => ByteArray.ext (Array.ext' h), fun h => by rw [h]⟩
theorem tl_prop (s : ByteArray) (a : Array UInt8) : (s.toList = a.toList) ↔ s = ⟨a⟩ := by
  have := tl_eq s a
  rw [Bool.eq_iff_iff, beq_iff_eq, decide_eq_true_iff] at this
  exact this
theorem goes_ev (s : ByteArray) (op : Int) (h0 : 0 ≤ op) (h5 : op ≤ 5) : Ev (fun k => wireglassref25_goes.f k s op) ((toOf op s).getD s) := by
  have eN : (s.toList == ([110, 101, 119] : List UInt8)) = decide (s = sNew) := tl_eq s #[110, 101, 119]
  have eR : (s.toList == ([114, 105, 110, 103, 115] : List UInt8)) = decide (s = sRings) := tl_eq s #[114, 105, 110, 103, 115]
  have eT : (s.toList == ([116, 97, 108, 107, 115] : List UInt8)) = decide (s = sTalks) := tl_eq s #[116, 97, 108, 107, 115]
  have pN : (s.toList = ([110, 101, 119] : List UInt8)) ↔ s = sNew := tl_prop s #[110, 101, 119]
  refine ⟨6, fun k hk => ?_⟩
  obtain ⟨k, rfl⟩ : ∃ j, k = j + 6 := ⟨k - 6, by omega⟩
  have n1 : ¬ sRings = sNew := by decide
  have n2 : ¬ sTalks = sNew := by decide
  have n3 : ¬ sTalks = sRings := by decide
  unfold wireglassref25_goes.f toOf
  show (if s.toList = [110, 101, 119] then wireglassref25_goes.j0 (k + 6) s op true else wireglassref25_goes.j0 (k + 6) s op (s.toList == [114, 105, 110, 103, 115])) = _
  by_cases cN : s = sNew
  · rw [if_pos (pN.2 cN)]
    have dN : (s = sNew) = True := eq_true cN
    have eN' : (s.toList == ([110, 101, 119] : List UInt8)) = true := by rw [eN]; exact decide_eq_true (of_eq_true dN)
    have dR : (s = sRings) = False := eq_false (fun h => n1 (h.symm.trans cN))
    have eR' : (s.toList == ([114, 105, 110, 103, 115] : List UInt8)) = false := by rw [eR]; exact decide_eq_false (of_eq_false dR)
    have dT : (s = sTalks) = False := eq_false (fun h => n2 (h.symm.trans cN))
    have eT' : (s.toList == ([116, 97, 108, 107, 115] : List UInt8)) = false := by rw [eT]; exact decide_eq_false (of_eq_false dT)
    clear eN eR eT
    clear pN
    rcases six h0 h5 with rfl | rfl | rfl | rfl | rfl | rfl <;> simp [wireglassref25_goes.j0, wireglassref25_goes.j1, wireglassref25_goes.j2, wireglassref25_goes.j3, wireglassref25_goes.j4, eN', eR', eT', dN, dR, dT] <;> first | rfl | (simp; done) | decide
  · rw [if_neg (fun h => cN (pN.1 h))]
    by_cases cR : s = sRings
    · have dN : (s = sNew) = False := eq_false cN
      have eN' : (s.toList == ([110, 101, 119] : List UInt8)) = false := by rw [eN]; exact decide_eq_false (of_eq_false dN)
      have dR : (s = sRings) = True := eq_true cR
      have eR' : (s.toList == ([114, 105, 110, 103, 115] : List UInt8)) = true := by rw [eR]; exact decide_eq_true (of_eq_true dR)
      have dT : (s = sTalks) = False := eq_false (fun h => n3 (h.symm.trans cR))
      have eT' : (s.toList == ([116, 97, 108, 107, 115] : List UInt8)) = false := by rw [eT]; exact decide_eq_false (of_eq_false dT)
      clear eN eR eT
      rw [eR']
      rcases six h0 h5 with rfl | rfl | rfl | rfl | rfl | rfl <;> simp [wireglassref25_goes.j0, wireglassref25_goes.j1, wireglassref25_goes.j2, wireglassref25_goes.j3, wireglassref25_goes.j4, eN', eR', eT', dN, dR, dT] <;> first | rfl | (simp; done) | decide
    · by_cases cT : s = sTalks
      · have dN : (s = sNew) = False := eq_false cN
        have eN' : (s.toList == ([110, 101, 119] : List UInt8)) = false := by rw [eN]; exact decide_eq_false (of_eq_false dN)
        have dR : (s = sRings) = False := eq_false cR
        have eR' : (s.toList == ([114, 105, 110, 103, 115] : List UInt8)) = false := by rw [eR]; exact decide_eq_false (of_eq_false dR)
        have dT : (s = sTalks) = True := eq_true cT
        have eT' : (s.toList == ([116, 97, 108, 107, 115] : List UInt8)) = true := by rw [eT]; exact decide_eq_true (of_eq_true dT)
        clear eN eR eT
        rw [eR']
        rcases six h0 h5 with rfl | rfl | rfl | rfl | rfl | rfl <;> simp [wireglassref25_goes.j0, wireglassref25_goes.j1, wireglassref25_goes.j2, wireglassref25_goes.j3, wireglassref25_goes.j4, eN', eR', eT', dN, dR, dT] <;> first | rfl | (simp; done) | decide
      · have dN : (s = sNew) = False := eq_false cN
        have eN' : (s.toList == ([110, 101, 119] : List UInt8)) = false := by rw [eN]; exact decide_eq_false (of_eq_false dN)
        have dR : (s = sRings) = False := eq_false cR
        have eR' : (s.toList == ([114, 105, 110, 103, 115] : List UInt8)) = false := by rw [eR]; exact decide_eq_false (of_eq_false dR)
        have dT : (s = sTalks) = False := eq_false cT
        have eT' : (s.toList == ([116, 97, 108, 107, 115] : List UInt8)) = false := by rw [eT]; exact decide_eq_false (of_eq_false dT)
        clear eN eR eT
        rw [eR']
        rcases six h0 h5 with rfl | rfl | rfl | rfl | rfl | rfl <;> simp [wireglassref25_goes.j0, wireglassref25_goes.j1, wireglassref25_goes.j2, wireglassref25_goes.j3, wireglassref25_goes.j4, eN', eR', eT', dN, dR, dT] <;> first | rfl | (simp; done) | decide
theorem itoaB_small (u : Nat) (h : u < 10) : itoaB (u : Int) = ⟨#[UInt8.ofNat (48 + u)]⟩ := by
  unfold itoaB Lib.itoa
  rw [if_neg (by omega), Int.toNat_natCast, Lib.decDigits, dif_pos h]
theorem itoaB_more (u : Nat) (h : ¬ u < 10) : itoaB (u : Int) = itoaB ((u / 10 : Nat) : Int) ++ itoaB ((u % 10 : Nat) : Int) := by
  rw [itoaB_small (u % 10) (by omega)]
  unfold itoaB Lib.itoa
  rw [if_neg (by omega), if_neg (by omega), Int.toNat_natCast, Int.toNat_natCast, Lib.decDigits, dif_neg h]
  apply ByteArray.ext
  simp
theorem dig_at (u : Nat) (h : u < 10) : (⟨#[48, 49, 50, 51, 52, 53, 54, 55, 56, 57]⟩ : ByteArray).extract u (u + 1) = ⟨#[UInt8.ofNat (48 + u)]⟩ := by
  have : u = 0 ∨ u = 1 ∨ u = 2 ∨ u = 3 ∨ u = 4 ∨ u = 5 ∨ u = 6 ∨ u = 7 ∨ u = 8 ∨ u = 9 := by omega
  rcases this with rfl | rfl | rfl | rfl | rfl | rfl | rfl | rfl | rfl | rfl <;> decide
theorem written_ev : ∀ (u : Nat), u ≤ 9223372036854775807 → Ev (fun k => wireglassref25_written.f k (u : Int)) (itoaB (u : Int)) := by
  intro u
  induction u using Nat.strongRecOn with
  | _ u ih =>
    intro hu
    by_cases c : u < 10
    · refine Ev.step (f := fun _ => some (itoaB (u : Int))) (fun k => ?_) (Ev.now _)
      rw [wireglassref25_written.f, if_pos (by omega), if_pos (by omega), w64 (by omega) (by omega), if_pos (by omega), if_pos (by omega), Int.toNat_natCast, show ((u : Int) + 1).toNat = u + 1 by omega, dig_at u c, itoaB_small u c]
    · have h1 : wrap64 (Int.tdiv (u : Int) 10) = ((u / 10 : Nat) : Int) := by rw [tdiv_pos (by omega), w64 (by omega) (by omega)]; omega
      have h2 : Int.tmod (u : Int) 10 = ((u % 10 : Nat) : Int) := by rw [tmod_pos (by omega)]; omega
      have e1 := ih (u / 10) (by omega) (by omega)
      have e2 := ih (u % 10) (by omega) (by omega)
      have s1 := itoaB_size (n := ((u / 10 : Nat) : Int)) (by omega) (by omega)
      have s2 := itoaB_size (n := ((u % 10 : Nat) : Int)) (by omega) (by omega)
      refine Ev.step (f := fun k => (wireglassref25_written.f k ((u / 10 : Nat) : Int)).bind fun t165 => (wireglassref25_written.f k ((u % 10 : Nat) : Int)).bind fun t166 => if t165.size + t166.size ≤ 9223372036854775807 then some (t165 ++ t166) else none) (fun k => ?_) ?_
      · rw [wireglassref25_written.f, if_neg (by omega), h1, h2]
      · refine Ev.bind e1 (Ev.bind e2 (Ev.if_pos (by omega) ?_))
        rw [itoaB_more u c]
        exact Ev.now _
theorem writtenI_ev (n : Int) (h0 : 0 ≤ n) (h1 : n ≤ 9223372036854775807) : Ev (fun k => wireglassref25_written.f k n) (itoaB n) := by
  obtain ⟨u, rfl⟩ := Int.eq_ofNat_of_zero_le h0
  exact written_ev u (by omega)
theorem rd48_at {L : List TS} {i : Nat} {y : TS} (h : L[i]? = some y) : rd_T48 L (i : Int) = y := by unfold rd_T48; rw [Int.toNat_natCast, List.getD_eq_getElem?_getD, h]; rfl
theorem rd25_at {L : List TA} {i : Nat} {y : TA} (h : L[i]? = some y) : rd_T25 L (i : Int) = y := by unfold rd_T25; rw [Int.toNat_natCast, List.getD_eq_getElem?_getD, h]; rfl
/-- The last place of a number. -/
def lastI : List TS → Int → Int → Int → Int
  | [], _, at_, _ => at_
  | y :: r, a, at_, i => if y.f0 = a then lastI r a i (i + 1) else lastI r a at_ (i + 1)
theorem lastI_none : ∀ (L : List TS) (a at_ i : Int), (∀ y ∈ L, y.f0 ≠ a) → lastI L a at_ i = at_
  | [], a, at_, i, h => rfl
  | y :: r, a, at_, i, h => by
    rw [lastI, if_neg (h y (by simp))]
    exact lastI_none r a at_ (i + 1) (fun z hz => h z (by simp [hz]))
theorem last_idx : ∀ (L : List TS) (a i : Int), (L.map (·.f0)).Nodup → lastI L a (-1) i = idx L a i
  | [], a, i, h => rfl
  | y :: r, a, i, h => by
    rw [List.map_cons, List.nodup_cons] at h
    rw [lastI, idx]
    by_cases c : y.f0 = a
    · rw [if_pos c, if_pos c]
      exact lastI_none r a i (i + 1) (fun z hz e => h.1 (by rw [c, ← e]; exact List.mem_map.2 ⟨z, hz, rfl⟩))
    · rw [if_neg c, if_neg c]
      exact last_idx r a (i + 1) h.2
theorem idx_none : ∀ (L : List TS) (a i : Int), 0 ≤ i → idx L a i < 0 → ∀ y ∈ L, y.f0 ≠ a
  | [], a, i, h, hn, y, hy => by simp at hy
  | x :: r, a, i, h, hn, y, hy => by
    rw [idx] at hn
    by_cases c : x.f0 = a
    · rw [if_pos c] at hn; omega
    · rw [if_neg c] at hn
      rcases List.mem_cons.1 hy with rfl | hy
      · exact c
      · exact idx_none r a (i + 1) (by omega) hn y hy
theorem step_nodup {L : List TS} (h : (L.map (·.f0)).Nodup) (x : TA) : ((stepC L x).map (·.f0)).Nodup := by
  unfold stepC
  by_cases c : idx L x.f1 0 < 0
  · rw [if_pos c, List.map_append, List.nodup_append]
    refine ⟨h, by simp, fun a ha b hb => ?_⟩
    obtain ⟨y, hy, rfl⟩ := List.mem_map.1 ha
    have hb2 : b = x.f1 := by
      rw [List.map_cons, List.map_nil, List.mem_singleton] at hb
      rw [hb]
      unfold newC
      split <;> rfl
    rw [hb2]
    exact idx_none L x.f1 0 (by omega) c y hy
  · rw [if_neg c]
    have e : ((L.set (idx L x.f1 0).toNat (takeC x.f0 x.f2 (L.getD (idx L x.f1 0).toNat ⟨0, ⟨#[]⟩, ⟨#[]⟩, 0⟩))).map (·.f0)) = L.map (·.f0) := by
      apply List.ext_getElem?
      intro j
      rw [List.getElem?_map, List.getElem?_map, List.getElem?_set]
      by_cases e : (idx L x.f1 0).toNat = j
      · rw [if_pos e]
        by_cases hj : (idx L x.f1 0).toNat < L.length
        · rw [if_pos hj, List.getD_eq_getElem?_getD, e, List.getElem?_eq_getElem (by omega)]
          rfl
        · rw [if_neg hj, List.getElem?_eq_none (by omega)]
      · rw [if_neg e]
    rw [e]
    exact h
/-- What is so of the calls behind i acts, the numbers too. -/
def InvR (i : Nat) (L : List TS) : Prop := InvC i L ∧ (L.map (·.f0)).Nodup
theorem InvR.fold {l : List TA} (h : l.all okA = true) : ∀ i, i ≤ l.length → InvR i ((l.take i).foldl stepC [])
  | 0, _ => ⟨⟨Nat.le_refl _, fun y hy => by simp at hy⟩, by simp⟩
  | i + 1, hi => by
    have hx : okA (l[i]'(by omega)) = true := List.all_eq_true.1 h _ (List.getElem_mem _)
    rw [List.take_succ_eq_append_getElem (by omega), List.foldl_append]
    obtain ⟨h1, h2⟩ := InvR.fold h i (by omega)
    exact ⟨h1.step hx, step_nodup h2 _⟩
theorem lines_from (L : List TS) (hl : L.length ≤ 200) (hb : ∀ y ∈ L, 0 ≤ y.f0 ∧ y.f0 ≤ 9223372036854775807 ∧ y.f1.size ≤ 16 ∧ y.f2.size ≤ 7 ∧ 0 ≤ y.f3 ∧ y.f3 ≤ 9223372036854775807) : ∀ (d i : Nat), i + d = L.length → Ev (fun k => rCalls.l3 k L ((L.take i).map lineC) (i : Int)) (L.map lineC, 0)
  | 0, i, h => by
    refine Ev.step (f := fun _ => some (L.map lineC, 0)) (fun k => ?_) (Ev.now _)
    rw [rCalls.l3, if_neg (by omega), List.take_of_length_le (by omega)]
  | d + 1, i, h => by
    have hi : i < L.length := by omega
    obtain ⟨y, hy⟩ : ∃ y, L[i] = y := ⟨_, rfl⟩
    have hr := rd48_at (L := L) (i := i) (y := y) (by rw [List.getElem?_eq_getElem hi, hy])
    obtain ⟨b0, b0', b1, b2, b3, b3'⟩ := hb y (by rw [← hy]; exact List.getElem_mem hi)
    have s1 := itoaB_size (n := y.f0) (by omega) b0'
    have s3 := itoaB_size (n := y.f3) (by omega) b3'
    have sp : (⟨#[32]⟩ : ByteArray).size = 1 := rfl
    have hlen : ((L.take i).map lineC).length = i := by rw [List.length_map, List.length_take]; omega
    refine Ev.step (f := fun k => if 0 ≤ (i : Int) then ((wireglassref25_written.f k y.f0).bind fun t203 => (if t203.size + 1 ≤ 9223372036854775807 then (if (t203 ++ (⟨#[32]⟩ : ByteArray)).size + (y.f1).size ≤ 9223372036854775807 then (if ((t203 ++ (⟨#[32]⟩ : ByteArray)) ++ (y.f1)).size + 1 ≤ 9223372036854775807 then (if (((t203 ++ (⟨#[32]⟩ : ByteArray)) ++ (y.f1)) ++ (⟨#[32]⟩ : ByteArray)).size + (y.f2).size ≤ 9223372036854775807 then (if ((((t203 ++ (⟨#[32]⟩ : ByteArray)) ++ (y.f1)) ++ (⟨#[32]⟩ : ByteArray)) ++ (y.f2)).size + 1 ≤ 9223372036854775807 then ((wireglassref25_written.f k y.f3).bind fun t204 => (if (((((t203 ++ (⟨#[32]⟩ : ByteArray)) ++ (y.f1)) ++ (⟨#[32]⟩ : ByteArray)) ++ (y.f2)) ++ (⟨#[32]⟩ : ByteArray)).size + t204.size ≤ 9223372036854775807 then (if ((L.take i).map lineC).length < 8796093022208 then (rCalls.l3 k L (((L.take i).map lineC) ++ [(((((t203 ++ (⟨#[32]⟩ : ByteArray)) ++ (y.f1)) ++ (⟨#[32]⟩ : ByteArray)) ++ (y.f2)) ++ (⟨#[32]⟩ : ByteArray)) ++ t204]) (wrap64 ((i : Int) + 1))) else (none)) else (none))) else (none)) else (none)) else (none)) else (none)) else (none))) else none) (fun k => ?_) ?_
    · rw [rCalls.l3, if_pos (by omega), hr]
    refine Ev.if_pos (by omega) (Ev.bind (writtenI_ev y.f0 b0 b0') (Ev.if_pos (by omega) (Ev.if_pos (by simp only [ByteArray.size_append, sp]; omega) (Ev.if_pos (by simp only [ByteArray.size_append, sp]; omega) (Ev.if_pos (by simp only [ByteArray.size_append, sp]; omega) (Ev.if_pos (by simp only [ByteArray.size_append, sp]; omega) (Ev.bind (writtenI_ev y.f3 b3 b3') (Ev.if_pos (by simp only [ByteArray.size_append, sp]; omega) (Ev.if_pos (by omega) ?_)))))))))
    rw [w64 (by omega) (by omega), show ((i : Int) + 1) = ((i + 1 : Nat) : Int) by omega]
    have e : (L.take i).map lineC ++ [(((((itoaB y.f0 ++ (⟨#[32]⟩ : ByteArray)) ++ (y.f1)) ++ (⟨#[32]⟩ : ByteArray)) ++ (y.f2)) ++ (⟨#[32]⟩ : ByteArray)) ++ itoaB y.f3] = (L.take (i + 1)).map lineC := by
      rw [List.take_succ_eq_append_getElem hi, hy, List.map_append]
      rfl
    rw [e]
    exact lines_from L hl hb d (i + 1) (by omega)
theorem find_from (l : List TA) (L : List TS) (i : Nat) (x : TA) (hx : l[i]? = some x) (hL : L.length ≤ 200) (r : List ByteArray × Int) : ∀ (d j : Nat) (a7 : Int), j + d = L.length → Ev (fun k => if lastI (L.drop j) x.f1 a7 j < 0 then rCalls.j3 k l L i (lastI (L.drop j) x.f1 a7 j) (x.f0 == 0) else rCalls.j3 k l L i (lastI (L.drop j) x.f1 a7 j) false) r → Ev (fun k => rCalls.l2 k l L (i : Int) a7 (j : Int)) r
  | 0, j, a7, h, hr => by
    have hi := (List.getElem?_eq_some_iff.1 hx).1
    rw [List.drop_eq_nil_of_le (by omega)] at hr
    refine Ev.step (fun k => ?_) hr
    rw [rCalls.l2, if_neg (by omega), rd25_at hx]
    show (if a7 < 0 then _ else _) = if lastI [] x.f1 a7 j < 0 then _ else _
    rw [lastI]
    by_cases c : a7 < 0
    · rw [if_pos c, if_pos c, if_pos (by omega), if_pos (by omega)]
    · rw [if_neg c, if_neg c]
  | d + 1, j, a7, h, hr => by
    have hi := (List.getElem?_eq_some_iff.1 hx).1
    have hj : j < L.length := by omega
    have hd : L.drop j = L[j] :: L.drop (j + 1) := List.drop_eq_getElem_cons hj
    have hrd := rd48_at (L := L) (i := j) (y := L[j]) (List.getElem?_eq_getElem hj)
    rw [hd, lastI] at hr
    by_cases c : (L[j]).f0 = x.f1
    · rw [if_pos c] at hr
      refine Ev.step (f := fun k => rCalls.l2 k l L (i : Int) (j : Int) ((j + 1 : Nat) : Int)) (fun k => ?_) (find_from l L i x hx hL r d (j + 1) j (by omega) hr)
      rw [rCalls.l2, if_pos (by omega), if_pos (by omega), if_pos (by omega), if_pos (by omega), hrd, rd25_at hx, if_pos c, w64 (by omega) (by omega)]
      rfl
    · rw [if_neg c] at hr
      refine Ev.step (f := fun k => rCalls.l2 k l L (i : Int) a7 ((j + 1 : Nat) : Int)) (fun k => ?_) (find_from l L i x hx hL r d (j + 1) a7 (by omega) hr)
      rw [rCalls.l2, if_pos (by omega), if_pos (by omega), if_pos (by omega), if_pos (by omega), hrd, rd25_at hx, if_neg c, w64 (by omega) (by omega)]
      rfl
theorem takeC_talks {x : TA} {y : TS} (h5 : x.f0 = 5) (ht : y.f2 = sTalks) : takeC x.f0 x.f2 y = ⟨y.f0, y.f1, y.f2, y.f3 + x.f2⟩ := by
  unfold takeC
  rw [if_pos ⟨h5, ht⟩, h5]
  rfl
theorem takeC_other {x : TA} {y : TS} (h : ¬ (x.f0 = 5 ∧ y.f2 = sTalks)) : takeC x.f0 x.f2 y = ⟨y.f0, y.f1, (toOf x.f0 y.f2).getD y.f2, y.f3⟩ := by
  unfold takeC
  rw [if_neg h]
theorem acts_from (l : List TA) (hl : l.length ≤ 200) (hall : l.all okA = true) : ∀ (d i : Nat), i + d = l.length → Ev (fun k => rCalls.l1 k l ((l.take i).foldl stepC []) (i : Int)) ((l.foldl stepC []).map lineC, 0)
  | 0, i, h => by
    have hI := (InvR.fold hall i (by omega)).1
    have e : l.take i = l := List.take_of_length_le (by omega)
    rw [e] at hI
    have hm : (i : Int) * 4503599627370496 ≤ 200 * 4503599627370496 := Int.mul_le_mul_of_nonneg_right (by omega) (by omega)
    have hb : ∀ y ∈ l.foldl stepC [], 0 ≤ y.f0 ∧ y.f0 ≤ 9223372036854775807 ∧ y.f1.size ≤ 16 ∧ y.f2.size ≤ 7 ∧ 0 ≤ y.f3 ∧ y.f3 ≤ 9223372036854775807 := fun y hy => by
      obtain ⟨a1, a2, a3, a4, a5, a6⟩ := hI.all y hy
      exact ⟨a1, by omega, a3, a4, a5, by omega⟩
    rw [e]
    refine Ev.step (f := fun k => rCalls.l3 k (l.foldl stepC []) (((l.foldl stepC []).take 0).map lineC) ((0 : Nat) : Int)) (fun k => ?_) (lines_from _ (by have := hI.len; omega) hb (l.foldl stepC []).length 0 (by omega))
    rw [rCalls.l1, if_neg (by omega)]
    rfl
  | d + 1, i, h => by
    have hi : i < l.length := by omega
    obtain ⟨x, hx⟩ : ∃ x, l[i] = x := ⟨_, rfl⟩
    have hx2 : l[i]? = some x := by rw [List.getElem?_eq_getElem hi, hx]
    have hok : okA x = true := List.all_eq_true.1 hall _ (by rw [← hx]; exact List.getElem_mem hi)
    obtain ⟨hI, hN⟩ := InvR.fold hall i (by omega)
    have hnext := acts_from l hl hall d (i + 1) (by omega)
    rw [List.take_succ_eq_append_getElem hi, hx, List.foldl_append] at hnext
    obtain ⟨L, hL⟩ : ∃ L, (l.take i).foldl stepC [] = L := ⟨_, rfl⟩
    rw [hL] at hI hN hnext ⊢
    have hnext : Ev (fun k => rCalls.l1 k l (stepC L x) ((i + 1 : Nat) : Int)) ((l.foldl stepC []).map lineC, 0) := hnext
    have hr25 := rd25_at hx2
    have hw : wrap64 ((i : Int) + 1) = ((i + 1 : Nat) : Int) := by rw [w64 (by omega) (by omega)]; omega
    have hLl : L.length ≤ 200 := by have := hI.len; omega
    refine Ev.step (f := fun k => rCalls.l2 k l L (i : Int) (-1) ((0 : Nat) : Int)) (fun k => ?_) (find_from l L i x hx2 hLl _ L.length 0 (-1) (by omega) ?_)
    · rw [rCalls.l1, if_pos (by omega)]
      rfl
    rw [List.drop_zero, last_idx L x.f1 _ hN]
    obtain ⟨o0, o5, o1, o2, o3, o4, o6⟩ := of_decide_eq_true hok
    by_cases c : idx L x.f1 ((0 : Nat) : Int) < 0
    · have c' : idx L x.f1 0 < 0 := c
      refine Ev.if_pos c ?_
      rw [show stepC L x = L ++ [newC x] from if_pos c'] at hnext
      refine Ev.step (f := fun k => rCalls.l1 k l (L ++ [newC x]) ((i + 1 : Nat) : Int)) (fun k => ?_) hnext
      rw [rCalls.j3, hr25]
      by_cases e : x.f0 = 0
      · rw [if_pos (by rw [e]; rfl), if_pos (by omega), if_pos (by omega), if_pos (by omega), hw, show newC x = ⟨x.f1, x.f4, ⟨#[110, 101, 119]⟩, 0⟩ from if_pos e]
      · rw [if_neg (by simp [e]), if_pos c, if_pos (by omega), if_pos (by omega), if_pos (by omega), hw, show newC x = ⟨x.f1, ⟨#[63]⟩, ⟨#[111, 100, 100]⟩, 0⟩ from if_neg e]
    · have c' : ¬ idx L x.f1 0 < 0 := c
      refine Ev.if_neg c ?_
      obtain ⟨j, hj, hjL⟩ : ∃ j : Nat, idx L x.f1 0 = (j : Int) ∧ j < L.length := by
        rcases idx_range L x.f1 0 (by omega) with h | ⟨h, h'⟩
        · omega
        · exact ⟨(idx L x.f1 0).toNat, by omega, by omega⟩
      obtain ⟨y, hy⟩ : ∃ y, L[j] = y := ⟨_, rfl⟩
      have hy2 : L[j]? = some y := by rw [List.getElem?_eq_getElem hjL, hy]
      have hr48 := rd48_at hy2
      have hm : (i : Int) * 4503599627370496 ≤ 200 * 4503599627370496 := Int.mul_le_mul_of_nonneg_right (by omega) (by omega)
      obtain ⟨_, _, _, _, y5, y6⟩ := hI.all y (List.mem_of_getElem? hy2)
      have hst : stepC L x = L.set j (takeC x.f0 x.f2 y) := by
        unfold stepC
        rw [if_neg c', hj, Int.toNat_natCast, List.getD_eq_getElem?_getD, hy2]
        rfl
      rw [hst] at hnext
      have hj0 : idx L x.f1 ((0 : Nat) : Int) = (j : Int) := hj
      rw [hj0]
      by_cases e5 : x.f0 = 5
      · by_cases et : y.f2 = sTalks
        · rw [takeC_talks e5 et] at hnext
          refine Ev.step (f := fun k => rCalls.l1 k l (L.set j ⟨y.f0, y.f1, y.f2, y.f3 + x.f2⟩) ((i + 1 : Nat) : Int)) (fun k => ?_) hnext
          rw [rCalls.j3, if_neg (by simp), if_neg (by omega), if_pos (by omega), if_pos (by omega), hr25, hr48, if_pos e5, if_pos (by omega), if_pos (by omega), if_pos ((tl_prop y.f2 #[116, 97, 108, 107, 115]).2 et), hw, Int.toNat_natCast, w64 (by omega) (by omega)]
        · rw [takeC_other (fun h => et h.2)] at hnext
          refine Ev.step (f := fun k => (wireglassref25_goes.f k y.f2 x.f0).bind fun t195 => rCalls.l1 k l (L.set j ⟨y.f0, y.f1, t195, y.f3⟩) ((i + 1 : Nat) : Int)) (fun k => ?_) (Ev.bind (goes_ev y.f2 x.f0 o0 o5) hnext)
          rw [rCalls.j3, if_neg (by simp), if_neg (by omega), if_pos (by omega), if_pos (by omega), hr25, hr48, if_pos e5, if_pos (by omega), if_pos (by omega), if_neg (fun h => et ((tl_prop y.f2 #[116, 97, 108, 107, 115]).1 h)), hw, Int.toNat_natCast]
      · rw [takeC_other (fun h => e5 h.1)] at hnext
        refine Ev.step (f := fun k => (wireglassref25_goes.f k y.f2 x.f0).bind fun t195 => rCalls.l1 k l (L.set j ⟨y.f0, y.f1, t195, y.f3⟩) ((i + 1 : Nat) : Int)) (fun k => ?_) (Ev.bind (goes_ev y.f2 x.f0 o0 o5) hnext)
        rw [rCalls.j3, if_neg (by simp), if_neg (by omega), if_pos (by omega), if_pos (by omega), hr25, hr48, if_neg e5, if_pos (by omega), if_pos (by omega), hw, Int.toNat_natCast]
theorem callsR_from (l : List TA) (hl : l.length ≤ 200) : ∀ (d i : Nat), i + d = l.length → (l.take i).all okA = true → Ev (fun k => rCalls.l0 k l (i : Int)) (callsP l)
  | 0, i, h, ha => by
    have e : l.take i = l := List.take_of_length_le (by omega)
    rw [e] at ha
    have hp : callsP l = ((l.foldl stepC []).map lineC, 0) := by unfold callsP; rw [if_neg (by omega), if_pos ha]
    rw [hp]
    refine Ev.step (f := fun k => rCalls.l1 k l ((l.take 0).foldl stepC []) ((0 : Nat) : Int)) (fun k => ?_) (acts_from l hl ha l.length 0 (by omega))
    rw [rCalls.l0, if_neg (by omega)]
    rfl
  | d + 1, i, h, ha => by
    have hi : i < l.length := by omega
    obtain ⟨x, hx⟩ : ∃ x, l[i] = x := ⟨_, rfl⟩
    have hr := rd25_at (L := l) (i := i) (y := x) (by rw [List.getElem?_eq_getElem hi, hx])
    have hmem : x ∈ l := by rw [← hx]; exact List.getElem_mem hi
    have hw : wrap64 ((i : Int) + 1) = ((i + 1 : Nat) : Int) := by rw [w64 (by omega) (by omega)]; omega
    have hbad : ¬ (0 ≤ x.f0 ∧ x.f0 ≤ 5 ∧ 0 ≤ x.f1 ∧ x.f1 ≤ 4503599627370496 ∧ 0 ≤ x.f2 ∧ x.f2 ≤ 4503599627370496 ∧ (x.f0 = 0 → isW x.f4 = true)) → callsP l = ([], 1) := fun hn => callsP_bad hl hmem (decide_eq_false hn)
    have hgood : okA x = true → Ev (fun k => rCalls.l0 k l ((i + 1 : Nat) : Int)) (callsP l) := fun hok => callsR_from l hl d (i + 1) (by omega) (by rw [List.take_succ_eq_append_getElem hi, hx, List.all_append, ha]; simp [hok])
    by_cases q0 : x.f0 < 0
    · rw [hbad (by omega)]
      refine Ev.step (f := fun _ => some ([], 1)) (fun k => ?_) (Ev.now _)
      rw [rCalls.l0, if_pos (by omega), if_pos (by omega), hr, if_pos q0]
    by_cases q1 : x.f0 > 5
    · rw [hbad (by omega)]
      refine Ev.step (f := fun _ => some ([], 1)) (fun k => ?_) (Ev.now _)
      rw [rCalls.l0, if_pos (by omega), if_pos (by omega), hr, if_neg q0, if_pos q1]
    by_cases q2 : x.f1 < 0
    · rw [hbad (by omega)]
      refine Ev.step (f := fun _ => some ([], 1)) (fun k => ?_) (Ev.now _)
      rw [rCalls.l0, if_pos (by omega), if_pos (by omega), hr, if_neg q0, if_neg q1, if_pos q2]
    by_cases q3 : x.f2 < 0
    · rw [hbad (by omega)]
      refine Ev.step (f := fun _ => some ([], 1)) (fun k => ?_) (Ev.now _)
      rw [rCalls.l0, if_pos (by omega), if_pos (by omega), hr, if_neg q0, if_neg q1, if_neg q2, if_pos q3]
    by_cases q4 : x.f1 > 4503599627370496
    · rw [hbad (by omega)]
      refine Ev.step (f := fun _ => some ([], 1)) (fun k => ?_) (Ev.now _)
      rw [rCalls.l0, if_pos (by omega), if_pos (by omega), hr, if_neg q0, if_neg q1, if_neg q2, if_neg q3, if_pos q4]
    by_cases q5 : x.f2 > 4503599627370496
    · rw [hbad (by omega)]
      refine Ev.step (f := fun _ => some ([], 1)) (fun k => ?_) (Ev.now _)
      rw [rCalls.l0, if_pos (by omega), if_pos (by omega), hr, if_neg q0, if_neg q1, if_neg q2, if_neg q3, if_neg q4, if_pos q5]
    by_cases q6 : x.f0 = 0
    · refine Ev.step (f := fun k => (wireglassref25_isWord.f k x.f4).bind fun t175 => if t175 = true then rCalls.l0 k l ((i + 1 : Nat) : Int) else some ([], 1)) (fun k => ?_) (Ev.bind (isR_ev x.f4) ?_)
      · rw [rCalls.l0, if_pos (by omega), if_pos (by omega), hr, if_neg q0, if_neg q1, if_neg q2, if_neg q3, if_neg q4, if_neg q5, if_pos q6, hw]
      · cases hv : isW x.f4 with
        | true => exact Ev.if_pos rfl (hgood (decide_eq_true ⟨by omega, by omega, by omega, by omega, by omega, by omega, fun _ => hv⟩))
        | false =>
          rw [hbad (fun h => by have := h.2.2.2.2.2.2 q6; rw [hv] at this; cases this)]
          exact Ev.if_neg (by simp) (Ev.now _)
    · refine Ev.step (f := fun k => rCalls.l0 k l ((i + 1 : Nat) : Int)) (fun k => ?_) (hgood (decide_eq_true ⟨by omega, by omega, by omega, by omega, by omega, by omega, fun h => absurd h q6⟩))
      rw [rCalls.l0, if_pos (by omega), if_pos (by omega), hr, if_neg q0, if_neg q1, if_neg q2, if_neg q3, if_neg q4, if_neg q5, if_neg q6, hw]
theorem callsR_ev (l : List TA) : Ev (fun k => rCalls.f k l) (callsP l) := by
  unfold rCalls.f
  by_cases c : (l.length : Int) > 200
  · have hp : callsP l = ([], 3) := by unfold callsP; rw [if_pos c]
    rw [hp]
    exact Ev.if_pos c (Ev.now _)
  · exact Ev.if_neg c (callsR_from l (by omega) l.length 0 (by omega) rfl)
theorem sameT_from (l : List ByteArray) (hl : l.length ≤ 200) : ∀ (d i : Nat), i + d = l.length → Ev (fun k => wireglassref02_SameTexts.l0 k l l (i : Int)) true
  | 0, i, h => Ev.step (f := fun _ => some true) (fun k => by rw [wireglassref02_SameTexts.l0, if_neg (by omega)]) (Ev.now _)
  | d + 1, i, h => Ev.step (f := fun k => wireglassref02_SameTexts.l0 k l l ((i + 1 : Nat) : Int)) (fun k => by
      rw [wireglassref02_SameTexts.l0, if_pos (by omega), if_pos (by omega), if_pos (by omega), if_pos rfl, w64 (by omega) (by omega)]; rfl) (sameT_from l hl d (i + 1) (by omega))
theorem sameT_ev (l : List ByteArray) (hl : l.length ≤ 200) : Ev (fun k => wireglassref02_SameTexts.f k l l) true := by
  unfold wireglassref02_SameTexts.f
  exact Ev.if_pos rfl (sameT_from l hl l.length 0 (by omega))
theorem callsP_len (l : List TA) : (callsP l).1.length ≤ 200 := by
  unfold callsP
  split
  · simp
  · split
    · rename_i h1 h2
      have h3 := (InvR.fold h2 l.length (Nat.le_refl _)).1.len
      rw [List.take_of_length_le (Nat.le_refl _)] at h3
      rw [List.length_map]
      omega
    · simp
theorem knownC_k : wireglasslaw25_known.f 200 = some true := by decide +kernel
end Go.Proofs.YtbloalfgbpgepaaDoor.T
