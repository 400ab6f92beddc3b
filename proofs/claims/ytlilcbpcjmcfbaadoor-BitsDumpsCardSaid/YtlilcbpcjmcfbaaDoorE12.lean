/- A dump is read back by the reference's reader too; so both readers tell the same of each text. Conditions: a text of at most 100000 bytes. -/
import Derived.Test.YtlilcbpcjmcfbaaDoorE11
namespace Go.Proofs.YtlilcbpcjmcfbaaDoor.Pure
open Go.RowKit Go.Shelf Go.Proofs.YtlilcbpcjmcfbaaDoor.D Go.Proofs.YtlilcbpcjmcfbaaDoor.Hand Go.Proofs.YtlilcbpcjmcfbaaDoorW.PrintWords Go.Proofs.YtlilcbpcjmcfbaaDoorW.PrintLast Go.Proofs.YtlilcbpcjmcfbaaDoorW.PrintMore
set_option linter.unusedVariables false
theorem colsN_ln (b : List Int) : ∀ i, i ≤ 16 → (colsN b i).length = if i = 0 then 0 else 3 * i - 1 + (if 8 < i then 1 else 0)
  | 0, _ => by simp [colsN]
  | i + 1, h => by
    rw [colsN, List.length_append, colsN_ln b i (by omega), colN_len]
    repeat' split
    all_goals omega
theorem colsN_pre (b : List Int) (i : Nat) : ∀ d, ∃ r, colsN b (i + d) = colsN b i ++ r
  | 0 => ⟨[], by simp⟩
  | d + 1 => by
    obtain ⟨r, hr⟩ := colsN_pre b i d
    exact ⟨r ++ colN b (i + d), by rw [← Nat.add_assoc, colsN, hr, List.append_assoc]⟩
/-- The two letters of a column. -/
def pairN (b : List Int) (i : Nat) : List Int := if i < b.length then hexN [rd b (i : Int)] else [32, 32]
theorem pairN_len (b : List Int) (i : Nat) : (pairN b i).length = 2 := by unfold pairN; split <;> simp [hexN_len]
theorem colN_pair (b : List Int) (i : Nat) : ∃ p, colN b i = p ++ pairN b i ∧ p.length = (if i = 8 then 1 else 0) + (if 0 < i then 1 else 0) := by
  refine ⟨(if i = 8 then [32] else []) ++ (if 0 < i then [32] else []), ?_, ?_⟩
  · rw [List.append_assoc]; rfl
  · rw [List.length_append]; split <;> split <;> simp
theorem body_col (a : Int) (b : List Int) {i : Nat} (hi : i < 16) : ((bodyN a b).drop (6 + 3 * i + i / 8)).take 2 = pairN b i := by
  obtain ⟨r, hr⟩ := colsN_pre b (i + 1) (16 - (i + 1))
  rw [show i + 1 + (16 - (i + 1)) = 16 by omega, show colsN b (i + 1) = colsN b i ++ colN b i from rfl] at hr
  obtain ⟨p, hp, hpl⟩ := colN_pair b i
  have e : bodyN a b = (hexN [a / 256 % 256, a % 256] ++ [32, 32] ++ colsN b i ++ p) ++ (pairN b i ++ (r ++ ([32, 32] ++ b.map prtN))) := by
    unfold bodyN
    rw [hr, hp]
    simp
  have hlen : (hexN [a / 256 % 256, a % 256] ++ [32, 32] ++ colsN b i ++ p).length = 6 + 3 * i + i / 8 := by
    rw [List.length_append, List.length_append, List.length_append, hexN_len, colsN_ln b i (by omega), hpl]
    simp only [List.length_cons, List.length_nil]
    repeat' split
    all_goals omega
  rw [e, ← hlen, List.drop_left, List.take_append_of_le_length (by rw [pairN_len]; exact Nat.le_refl _), List.take_of_length_le (by rw [pairN_len]; exact Nat.le_refl _)]
theorem rd_of_cut {l : List Int} {k : Nat} {p q : Int} (h : (l.drop k).take 2 = [p, q]) : rd l (k : Int) = p := by
  unfold rd
  rw [Int.toNat_natCast, List.getD_eq_getElem?_getD]
  have h1 : ((l.drop k).take 2)[0]? = some p := by rw [h]; rfl
  rw [List.getElem?_take_of_lt (by omega), List.getElem?_drop, Nat.add_zero] at h1
  rw [h1]; rfl
/-- A row of a dump, column by column. -/
theorem refg_row (s : ByteArray) (a : Int) {b : List Int} (hb : isB b) (h16 : b.length ≤ 16) (e : Nat) (out : List Int) (ho : out.length ≤ 100000) (u : List Int × Int) (hN : Ev (fun k => wireglassref01_Undump.l0 k s (out ++ b) (wrap64 ((e : Int) + 1))) u) :
    ∀ (d i : Nat), i + d = 16 → i ≤ b.length → Ev (fun k => wireglassref01_Undump.l2 k s (out ++ b.take i) (e : Int) (strOfNums (bodyN a b)) (i : Int)) u
  | 0, i, h, hl => by
    refine Ev.step (fun k => ?_) hN
    rw [wireglassref01_Undump.l2, if_neg (by omega), List.take_of_length_le (by omega)]
  | d + 1, i, h, hl => by
    have hi : i < 16 := by omega
    have ek := kk_eq hi
    have hcol := body_col a b hi
    obtain ⟨kk, hkk⟩ : ∃ kk, 6 + 3 * i + i / 8 = kk := ⟨_, rfl⟩
    rw [hkk] at ek hcol
    have hk2 : kk + 2 ≤ 54 := by omega
    have e2 : wrap64 ((kk : Int) + 2) = ((kk + 2 : Nat) : Int) := by rw [w64 (by omega) (by omega)]; omega
    have e1 : wrap64 ((i : Int) + 1) = ((i + 1 : Nat) : Int) := by rw [w64 (by omega) (by omega)]; omega
    have hsz : (strOfNums (bodyN a b)).size = 56 + b.length := by rw [strOfNums_size, bodyN_len]
    have hbt := bt_sn (bodyN_isB a b) (i := kk) (by rw [bodyN_len]; omega)
    by_cases c : i < b.length
    · have hc := rd_isB hb c
      have hp : pairN b i = [bt DG (rd b (i : Int) / 16), bt DG (rd b (i : Int) % 16)] := by unfold pairN; rw [if_pos c]; rfl
      have hr := rd_of_cut (hcol.trans hp)
      have hne := (dg_ne (d := rd b (i : Int) / 16) (by omega) (by omega)).1
      have hx := unhexR_ev ((strOfNums (bodyN a b)).extract kk (kk + 2)) (by rw [ByteArray.size_extract]; omega)
      have hexe : unhexS ((strOfNums (bodyN a b)).extract kk (kk + 2)) = ([rd b (i : Int)], 0) := by
        rw [extract_sn, show kk + 2 - kk = 2 by omega, hcol]
        unfold pairN
        rw [if_pos c]
        exact unhexS_hex (isB_one hc.1 hc.2)
      rw [hexe] at hx
      have ih := refg_row s a hb h16 e out ho u hN d (i + 1) (by omega) (by omega)
      rw [take_rd c, ← List.append_assoc] at ih
      refine Ev.step (f := fun k => wireglassref01_Undump.j4 k s (out ++ b.take i) (e : Int) (strOfNums (bodyN a b)) (i : Int) (kk : Int) false) (fun k => ?_) ?_
      · rw [wireglassref01_Undump.l2, ek, e2, if_pos (by omega), if_neg (by omega), if_pos (by omega), if_pos (by omega), hbt, hr, beq_eq_false_iff_ne.mpr hne]
      · refine Ev.step (f := fun k => (wireglassref01_Unhex.f k ((strOfNums (bodyN a b)).extract kk (kk + 2))).bind fun bt149 => (if bt149.2 = 0 then (if (out ++ b.take i).length + bt149.1.length < 140737488355328 then (wireglassref01_Undump.l2 k s ((out ++ b.take i) ++ bt149.1) (e : Int) (strOfNums (bodyN a b)) (wrap64 ((i : Int) + 1))) else (none)) else (some (([] : List Int), bt149.2)))) (fun k => ?_) ?_
        · rw [wireglassref01_Undump.j4, if_neg (by decide), e2, if_pos (by omega), if_pos (by omega), if_pos (by omega), Int.toNat_natCast, Int.toNat_natCast]
        · refine Ev.bind hx ?_
          rw [e1]
          simp only [if_true]
          exact Ev.if_pos (by rw [List.length_append, List.length_take, List.length_singleton]; omega) ih
    · have hp : pairN b i = [32, 32] := by unfold pairN; rw [if_neg c]
      have hr := rd_of_cut (hcol.trans hp)
      rw [List.take_of_length_le (by omega)]
      refine Ev.step (f := fun k => wireglassref01_Undump.j4 k s (out ++ b) (e : Int) (strOfNums (bodyN a b)) (i : Int) (kk : Int) true) (fun k => ?_) ?_
      · rw [wireglassref01_Undump.l2, ek, e2, if_pos (by omega), if_neg (by omega), if_pos (by omega), if_pos (by omega), hbt, hr]
        rfl
      · refine Ev.step (fun k => ?_) hN
        rw [wireglassref01_Undump.j4, if_pos rfl]
theorem rd_appR (p q : List Int) (t : Nat) : rd (p ++ q) ((p.length + t : Nat) : Int) = rd q (t : Int) := by
  unfold rd
  rw [Int.toNat_natCast, Int.toNat_natCast, List.getD_eq_getElem?_getD, List.getD_eq_getElem?_getD, List.getElem?_append_right (by omega), show p.length + t - p.length = t by omega]
theorem rd_appL (p q : List Int) {t : Nat} (h : t < p.length) : rd (p ++ q) (t : Int) = rd p (t : Int) := by
  unfold rd
  rw [Int.toNat_natCast, List.getD_eq_getElem?_getD, List.getD_eq_getElem?_getD, List.getElem?_append_left h]
/-- A row of a dump is found from its begin. -/
theorem refg_scan (a : Int) {b : List Int} (hb : isB b) (h16 : b.length ≤ 16) (p r : List Int) (hp : isB p) (hr : isB r) (hl : (p ++ (lineN a b ++ r)).length ≤ 1000000) (out : List Int) (ho : out.length ≤ 100000) (u : List Int × Int)
    (hN : Ev (fun k => wireglassref01_Undump.l0 k (strOfNums (p ++ (lineN a b ++ r))) (out ++ b) (((p ++ lineN a b).length : Nat) : Int)) u) :
    Ev (fun k => wireglassref01_Undump.l0 k (strOfNums (p ++ (lineN a b ++ r))) out ((p.length : Nat) : Int)) u := by
  have hll := lineN_len a b
  have hbl := bodyN_len a b
  have hL : (p ++ (lineN a b ++ r)).length = p.length + (57 + b.length) + r.length := by rw [List.length_append, List.length_append, hll]; omega
  have hB : isB (p ++ (lineN a b ++ r)) := isB_app hp (isB_app (lineN_isB a b) hr)
  obtain ⟨s, hs⟩ : ∃ s, strOfNums (p ++ (lineN a b ++ r)) = s := ⟨_, rfl⟩
  have hsz : s.size = p.length + (57 + b.length) + r.length := by rw [← hs, strOfNums_size, hL]
  have hat : ∀ t, t < (bodyN a b).length → bt s ((p.length + t : Nat) : Int) ≠ 10 := by
    intro t ht
    rw [← hs, bt_sn hB (by rw [hL]; omega), rd_appR, lineN_body, List.append_assoc, rd_appL _ _ ht, rd_at ht]
    exact bodyN_ne a hb _ (List.getElem_mem ht)
  have hend : bt s ((p.length + (bodyN a b).length : Nat) : Int) = 10 := by
    rw [← hs, bt_sn hB (by rw [hL]; omega), rd_appR, lineN_body, List.append_assoc]
    have := rd_appR (bodyN a b) ([10] ++ r) 0
    rw [Nat.add_zero] at this
    rw [this]
    rfl
  have hcut : s.extract p.length (p.length + (bodyN a b).length) = strOfNums (bodyN a b) := by
    rw [← hs, extract_sn, List.drop_left, show p.length + (bodyN a b).length - p.length = (bodyN a b).length by omega, lineN_body, List.append_assoc, List.take_left]
  rw [hs] at hN ⊢
  have hlast : wrap64 (((p.length + (bodyN a b).length : Nat) : Int) + 1) = (((p ++ lineN a b).length : Nat) : Int) := by
    rw [w64 (by omega) (by omega), List.length_append, hll]; omega
  rw [← hlast] at hN
  have hrow := refg_row s a hb h16 (p.length + (bodyN a b).length) out ho u hN 16 0 (by omega) (by omega)
  rw [List.take_zero, List.append_nil] at hrow
  have hj : Ev (fun k => wireglassref01_Undump.j2 k s out ((p.length : Nat) : Int) ((p.length + (bodyN a b).length : Nat) : Int)) u := by
    refine Ev.step (fun k => ?_) hrow
    rw [wireglassref01_Undump.j2, if_pos (by omega), if_pos (by omega), if_pos (by omega), Int.toNat_natCast, Int.toNat_natCast, hcut]
    rfl
  clear hlast hN hrow hcut
  obtain ⟨L, hLL⟩ : ∃ L, (bodyN a b).length = L := ⟨_, rfl⟩
  rw [hLL] at hat hend hj hbl
  obtain ⟨n, hn⟩ : ∃ n, p.length = n := ⟨_, rfl⟩
  rw [hn] at hat hend hj hsz ⊢
  have hsz2 : n + L < s.size ∧ s.size ≤ 1000000 := by rw [hn] at hL; omega
  clear hL hll hl hs hB hLL hn hsz hbl ho h16
  have hscan : ∀ (d t : Nat), t + d = L → Ev (fun k => wireglassref01_Undump.l1 k s out ((n : Nat) : Int) ((n + t : Nat) : Int)) u := by
    intro d
    induction d with
    | zero =>
      intro t ht
      refine Ev.step (fun k => ?_) hj
      rw [wireglassref01_Undump.l1, show t = L by omega, if_pos (by omega), if_pos (by omega), if_pos hend]
    | succ d ih =>
      intro t ht
      have e1 : wrap64 (((n + t : Nat) : Int) + 1) = ((n + (t + 1) : Nat) : Int) := by rw [w64 (by omega) (by omega)]; omega
      refine Ev.step (fun k => ?_) (ih (t + 1) (by omega))
      rw [wireglassref01_Undump.l1, if_pos (by omega), if_pos (by omega), if_neg (hat t (by omega)), e1]
  refine Ev.step (fun k => ?_) (hscan L 0 (by omega))
  rw [wireglassref01_Undump.l0, if_pos (by omega)]
  rfl
theorem tailN_isB (x : List Int) : ∀ d j, isB (tailN x d j)
  | 0, j => isB_nil
  | d + 1, j => isB_app (lineN_isB _ _) (tailN_isB x d (j + 1))
theorem tailN_len (x : List Int) : ∀ d j, (tailN x d j).length ≤ 73 * d
  | 0, j => by simp [tailN]
  | d + 1, j => by
    have := tailN_len x d (j + 1)
    have h2 : ((x.drop (16 * j)).take 16).length ≤ 16 := List.length_take_le _ _
    rw [tailN, List.length_append, lineN_len]
    omega
theorem refg_rows {x : List Int} (h : isB x) (hl : x.length ≤ 1600) : ∀ (d j : Nat), j + d = (x.length + 15) / 16 → Ev (fun k => wireglassref01_Undump.l0 k (strOfNums (dumpN x)) (x.take (16 * j)) (((rowsN x j).length : Nat) : Int)) (x, 0)
  | 0, j, e => by
    have hd := dumpR_ev x h hl
    rw [List.take_of_length_le (by omega), show rowsN x j = dumpN x by unfold dumpN; rw [show j = (x.length + 15) / 16 by omega]]
    refine Ev.step (f := fun k => (wireglassref01_Dump.f k x).bind fun bt147 => (if bt147.2 = 0 then (if bt147.1.toList = (strOfNums (dumpN x)).toList then (some (x, 0)) else (some (([] : List Int), 2))) else (some (([] : List Int), 2)))) (fun k => by rw [wireglassref01_Undump.l0, if_neg (by rw [strOfNums_size]; omega)]) ?_
    refine Ev.bind hd ?_
    rw [if_pos rfl, if_pos rfl]
    exact Ev.now _
  | d + 1, j, e => by
    have ih := refg_rows h hl d (j + 1) (by omega)
    have hj : x.take (16 * j) ++ (x.drop (16 * j)).take 16 = x.take (16 * (j + 1)) := by
      rw [show 16 * (j + 1) = 16 * j + 16 by omega, List.take_add]
    have ed : dumpN x = rowsN x j ++ (lineN (16 * j) ((x.drop (16 * j)).take 16) ++ tailN x d (j + 1)) := by
      unfold dumpN
      rw [← e, rows_tail, tailN]
    have h1 := rowsN_len x j
    have h2 := tailN_len x (d + 1) j
    rw [tailN] at h2
    rw [← hj, rowsN] at ih
    rw [ed] at ih ⊢
    exact refg_scan (16 * (j : Int)) (isB_cut h (16 * j) 16) (List.length_take_le _ _) (rowsN x j) (tailN x d (j + 1)) (rowsN_isB x j) (tailN_isB x d (j + 1)) (by rw [List.length_append]; omega) (x.take (16 * j)) (by rw [List.length_take]; omega) (x, 0) ih
theorem ref_good {s : ByteArray} {x : List Int} (hx : GoodD s x) : Ev (fun k => wireglassref01_Undump.f k s) (x, 0) := by
  obtain ⟨hb, hl, hs⟩ := hx
  subst hs
  exact refg_rows hb hl ((x.length + 15) / 16) 0 (by omega)
/-- Both readers tell the same. -/
theorem both_und {s : ByteArray} (hs : s.size ≤ 100000) {r1 : List Int} {r2 : Int} (h : UndB s r1 r2) : Ev (fun k => wireglassref01_Undump.f k s) (r1, r2) := by
  by_cases c : ∃ x, GoodD s x
  · obtain ⟨x, hx⟩ := c
    obtain ⟨h1, h2⟩ := undB_good hx h
    rw [h1, h2]
    exact ref_good hx
  · obtain ⟨⟨u1, u2⟩, hu, ho⟩ := ref_ok s hs
    rcases undB_ok h with ⟨h1, h2⟩ | ⟨_, hg⟩
    · rcases ho with ⟨h3, h4⟩ | ⟨_, hg⟩
      · rw [h1, h2]
        simp only at h3 h4
        rw [h3, h4] at hu
        exact hu
      · exact absurd ⟨_, hg⟩ c
    · exact absurd ⟨_, hg⟩ c
end Go.Proofs.YtlilcbpcjmcfbaaDoor.Pure
