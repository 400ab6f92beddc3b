/- What a pattern's tree matches; ends tells it. No program in sight. Conditions: as each theorem says. -/
import Derived.Test.YtclgnefeankbgaaP3
import Derived.Test.YtclgnefeankbgaaM42
namespace Go.Proofs.Ytclgnefeankbgaa.M
open Go Go.RowKit
set_option linter.unusedVariables false
set_option linter.unusedSimpArgs false
def altM (Ms : List Rel) : Rel := fun i j => ∃ M ∈ Ms, M i j
theorem altC_sem (bs : List Int) : ∀ (fs : List (List ST → List ST)) (Ms : List Rel) (e0 : List Nat) (xs : List ST), fs ≠ [] → SemL bs fs Ms → ∃ new, (altC fs e0 xs).1 = e0 ++ new ∧ Pre xs (altC fs e0 xs).2 ∧ (∀ k ∈ new, xs.length ≤ k ∧ k < (altC fs e0 xs).2.length ∧ (altC fs e0 xs).2[k]? = some ⟨4, C4.nil, 0, 0⟩) ∧
    ((altC fs e0 xs).2.length = xs.length → ∀ i j, altM Ms i j ↔ i = j) ∧
    ∀ Y, (∀ k, xs.length ≤ k → k < (altC fs e0 xs).2.length → k ∉ new → Y[k]? = (altC fs e0 xs).2[k]?) → (∀ k ∈ new, Y[k]? = some ⟨4, C4.nil, ((altC fs e0 xs).2.length : Int), 0⟩) →
      (∀ m i e, AccN Y bs m xs.length i e → ∃ j m', m' ≤ m ∧ altM Ms i j ∧ AccN Y bs m' (altC fs e0 xs).2.length j e) ∧ (∀ i j e, altM Ms i j → Acc Y bs (altC fs e0 xs).2.length j e → Acc Y bs xs.length i e)
  | [], Ms, e0, xs, hne, hs => absurd rfl hne
  | [f], [M], e0, xs, hne, hs => by
    have h := hs.1
    have h1 : ∀ i j, altM [M] i j ↔ M i j := fun i j => by
      constructor
      · rintro ⟨M', hm, h⟩
        have : M' = M := by simpa using hm
        rw [this] at h; exact h
      · intro h; exact ⟨M, by simp, h⟩
    rw [altC]
    refine ⟨[], by simp, h.pre xs, (fun k hk => by cases hk), fun hl i j => (h1 i j).trans (h.emp xs hl i j), fun Y y1 _ => ?_⟩
    have hag : Agr Y (f xs) xs.length := fun k a b => y1 k a b (by simp)
    refine ⟨fun m i e hm => ?_, fun i j e hm hc => ?_⟩
    · obtain ⟨j, m', a, b, c⟩ := h.fwd xs Y hag m i e hm
      exact ⟨j, m', a, (h1 i j).2 b, c⟩
    · exact h.bwd xs Y hag i j e ((h1 i j).1 hm) hc
  | [f], [], e0, xs, hne, hs => hs.elim
  | [f], _ :: _ :: _, e0, xs, hne, hs => hs.2.elim
  | f :: g :: fs, [], e0, xs, hne, hs => hs.elim
  | f :: g :: fs, M :: Ms, e0, xs, hne, hs => by
    obtain ⟨h, hs2⟩ := hs
    have hpx : Pre xs (f (splitA xs)) := (pre_split xs).trans (h.pre _)
    have hle := (h.pre (splitA xs)).le
    rw [splitA_len] at hle
    rw [altC]
    obtain ⟨r, hr⟩ : ∃ r, (f (splitA xs)).length = r := ⟨_, rfl⟩
    rw [hr] at hle
    rw [hr]
    obtain ⟨x2, hx2⟩ : ∃ y, setB (f (splitA xs) ++ [⟨4, C4.nil, 0, 0⟩]) xs.length ((r : Int) + 1) = y := ⟨_, rfl⟩
    rw [hx2]
    have hl2 : x2.length = r + 1 := by rw [← hx2, setB_len, List.length_append, hr]; rfl
    have hget : ∀ k, x2[k]? = if k = xs.length then some ⟨3, C4.nil, (xs.length : Int) + 1, (r : Int) + 1⟩ else if k = r then some ⟨4, C4.nil, 0, 0⟩ else (f (splitA xs))[k]? := fun k => by
      rw [← hx2, setB_get]
      by_cases e : k = xs.length
      · rw [if_pos e, if_pos e, List.getElem?_append_left (by omega), e, h.pre (splitA xs) _ (by rw [splitA_len]; omega), split_at]
        rfl
      · rw [if_neg e, if_neg e]
        by_cases e2 : k = r
        · rw [if_pos e2, e2, ← hr]; simp
        · rw [if_neg e2]
          rcases Nat.lt_or_ge k (f (splitA xs)).length with h3 | h3
          · rw [List.getElem?_append_left h3]
          · rw [List.getElem?_eq_none (by simp; omega), List.getElem?_eq_none h3]
    obtain ⟨new, a1, a2, a3, a4, a5⟩ := altC_sem bs (g :: fs) Ms (e0 ++ [r]) x2 (by simp) hs2
    obtain ⟨q, hq⟩ : ∃ q, altC (g :: fs) (e0 ++ [r]) x2 = q := ⟨_, rfl⟩
    rw [hq] at a1 a2 a3 a4 a5 ⊢
    have hlq := a2.le
    have hcons : ∀ i j, altM (M :: Ms) i j ↔ M i j ∨ altM Ms i j := fun i j => by
      constructor
      · rintro ⟨M', hm, h9⟩
        rcases List.mem_cons.1 hm with e | hm
        · rw [e] at h9; exact .inl h9
        · exact .inr ⟨M', hm, h9⟩
      · rintro (h9 | ⟨M', hm, h9⟩)
        · exact ⟨M, List.mem_cons_self, h9⟩
        · exact ⟨M', List.mem_cons_of_mem _ hm, h9⟩
    have hrq : q.2[r]? = some ⟨4, C4.nil, 0, 0⟩ := by rw [a2 r (by omega), hget, if_neg (by omega), if_pos rfl]
    refine ⟨r :: new, by rw [a1, List.append_assoc]; rfl, ?_, ?_, fun hl => by omega, fun Y y1 y2 => ?_⟩
    · intro k hk
      rw [a2 k (by omega), hget, if_neg (by omega), if_neg (by omega)]
      exact hpx k hk
    · intro k hk
      rcases List.mem_cons.1 hk with rfl | hk
      · exact ⟨by omega, by omega, hrq⟩
      · obtain ⟨b1, b2, b3⟩ := a3 k hk
        exact ⟨by omega, b2, b3⟩
    · have hnot : ∀ k, k < r → k ∉ r :: new := fun k hk hm => by
        rcases List.mem_cons.1 hm with rfl | hm
        · omega
        · have := (a3 k hm).1; omega
      have hsp : Y[xs.length]? = some ⟨3, C4.nil, ((xs.length + 1 : Nat) : Int), ((x2.length : Nat) : Int)⟩ := by
        rw [y1 _ (Nat.le_refl _) (by omega) (hnot _ (by omega)), a2 _ (by omega), hget, if_pos rfl, hl2]
        rfl
      have hj := y2 r List.mem_cons_self
      have hag : Agr Y (f (splitA xs)) (splitA xs).length := fun k h1 h2 => by
        rw [splitA_len] at h1
        rw [y1 k (by omega) (by omega) (hnot k (by omega)), a2 k (by omega), hget, if_neg (by omega), if_neg (by omega)]
      obtain ⟨f1, f2⟩ := a5 Y (fun k h1 h2 h3 => y1 k (by omega) h2 (fun hm => by
        rcases List.mem_cons.1 hm with rfl | hm
        · omega
        · exact h3 hm)) (fun k hk => y2 k (List.mem_cons_of_mem _ hk))
      refine ⟨fun m i e hm => ?_, fun i j e hm hc => ?_⟩
      · obtain ⟨m1, hm1, h1 | h1⟩ := acc_split hsp hm
        · rw [← splitA_len] at h1
          obtain ⟨j, m2, h2, h3, h4⟩ := h.fwd (splitA xs) Y hag m1 i e h1
          rw [hr] at h4
          obtain ⟨m3, h5, h6⟩ := acc_jump hj h4
          exact ⟨j, m3, by omega, (hcons i j).2 (.inl h3), h6⟩
        · obtain ⟨j, m2, h2, h3, h4⟩ := f1 m1 i e h1
          exact ⟨j, m2, by omega, (hcons i j).2 (.inr h3), h4⟩
      · rcases (hcons i j).1 hm with hm | hm
        · refine acc_split_a hsp ?_
          rw [← splitA_len]
          refine h.bwd (splitA xs) Y hag i j e hm ?_
          rw [hr]
          exact acc_jump_a hj hc
        · exact acc_split_b hsp (f2 i j e hm hc)
theorem sem_alt {bs : List Int} {fs : List (List ST → List ST)} {Ms : List Rel} (hne : fs ≠ []) (hs : SemL bs fs Ms) : SemF bs (fun xs => patchA (altC fs [] xs).1 (altC fs [] xs).2) (altM Ms) := by
  have hall := fun xs => altC_sem bs fs Ms [] xs hne hs
  have hg : ∀ xs new, (altC fs [] xs).1 = [] ++ new → (∀ k ∈ new, xs.length ≤ k ∧ k < (altC fs [] xs).2.length ∧ (altC fs [] xs).2[k]? = some ⟨4, C4.nil, 0, 0⟩) → ∀ k, (patchA (altC fs [] xs).1 (altC fs [] xs).2)[k]? = if k ∈ new then some ⟨4, C4.nil, ((altC fs [] xs).2.length : Int), 0⟩ else (altC fs [] xs).2[k]? := fun xs new h1 h3 k => by
    rw [patchA_get, h1, List.nil_append]
    by_cases hk : k ∈ new
    · rw [if_pos hk, if_pos hk, (h3 k hk).2.2]; rfl
    · rw [if_neg hk, if_neg hk]
  refine ⟨fun xs => ?_, fun xs hl => ?_, fun xs Y ha m i e hn => ?_, fun xs Y ha i j e hm hc => ?_⟩
  · obtain ⟨new, a1, a2, a3, _⟩ := hall xs
    intro k hk
    rw [hg xs new a1 a3, if_neg (fun hm => by have := (a3 k hm).1; omega)]
    exact a2 k hk
  · obtain ⟨new, a1, a2, a3, a4, _⟩ := hall xs
    rw [patchA_len] at hl
    exact a4 hl
  · obtain ⟨new, a1, a2, a3, a4, a5⟩ := hall xs
    rw [patchA_len]
    refine (a5 Y (fun k h1 h2 h3 => ?_) (fun k hk => ?_)).1 m i e hn
    · rw [ha k h1 (by rw [patchA_len]; exact h2), hg xs new a1 a3, if_neg h3]
    · rw [ha k (a3 k hk).1 (by rw [patchA_len]; exact (a3 k hk).2.1), hg xs new a1 a3, if_pos hk]
  · obtain ⟨new, a1, a2, a3, a4, a5⟩ := hall xs
    rw [patchA_len] at hc
    refine (a5 Y (fun k h1 h2 h3 => ?_) (fun k hk => ?_)).2 i j e hm hc
    · rw [ha k h1 (by rw [patchA_len]; exact h2), hg xs new a1 a3, if_neg h3]
    · rw [ha k (a3 k hk).1 (by rw [patchA_len]; exact (a3 k hk).2.1), hg xs new a1 a3, if_pos hk]
/-- What a part matches. -/
def rel1 (bs : List Int) (k : Int) (c : C4) (le mo : Int) (Ms : List Rel) : Rel :=
  if k = 0 then byteR bs c
  else if k = 1 then edgeR 0
  else if k = 2 then edgeR bs.length
  else if k = 3 then compL Ms
  else if k = 4 then altM Ms
  else repM (Ms.headD idR) le.toNat (if mo < 0 then none else some mo.toNat)
def rels (bs : List Int) : Pt → List Rel
  | .nil => []
  | .cons k c le mo nu kids rest => rel1 bs k c le mo (rels bs kids) :: rels bs rest
theorem codes_ne {t : Pt} (h : 0 < t.len) : codes t ≠ [] := by
  cases t with
  | nil => exact absurd h (by decide)
  | cons => unfold codes; simp
theorem sem_codes (bs : List Int) : ∀ t : Pt, t.ok → t.fit → SemL bs (codes t) (rels bs t)
  | .nil, _, _ => trivial
  | .cons k c le mo nu kids rest, ⟨h, hk, hr⟩, ⟨h', hk', hr'⟩ => by
    refine ⟨?_, sem_codes bs rest hr hr'⟩
    have ih := sem_codes bs kids hk hk'
    unfold rel1
    by_cases k0 : k = 0
    · rw [if_pos k0]
      exact (sem_byte bs c).congr (fun xs => by unfold code1; rw [if_pos k0]) (fun i j => Iff.rfl)
    rw [if_neg k0]
    by_cases k1 : k = 1
    · rw [if_pos k1]
      exact (sem_edge bs 1 0 (.inl ⟨rfl, rfl⟩)).congr (fun xs => by unfold code1; rw [if_neg k0, if_pos k1]) (fun i j => Iff.rfl)
    rw [if_neg k1]
    by_cases k2 : k = 2
    · rw [if_pos k2]
      exact (sem_edge bs 2 bs.length (.inr ⟨rfl, rfl⟩)).congr (fun xs => by unfold code1; rw [if_neg k0, if_neg k1, if_pos k2]) (fun i j => Iff.rfl)
    rw [if_neg k2]
    by_cases k3 : k = 3
    · rw [if_pos k3]
      exact (sem_cat bs _ _ ih).congr (fun xs => by unfold code1; rw [if_neg k0, if_neg k1, if_neg k2, if_pos k3]) (fun i j => Iff.rfl)
    rw [if_neg k3]
    by_cases k4 : k = 4
    · rw [if_pos k4]
      exact (sem_alt (codes_ne (h.2.2.2.2.2.1 k4)) ih).congr (fun xs => by unfold code1; rw [if_neg k0, if_neg k1, if_neg k2, if_neg k3, if_pos k4]) (fun i j => Iff.rfl)
    rw [if_neg k4]
    have k5 : k = 5 := by omega
    have hl := h.2.2.2.2.2.2 k5
    obtain ⟨hf0, hf1⟩ := h'.2.2 k5
    have hlm : mo < 0 ∨ le ≤ mo := by
      cases nu with
      | true => have := hf1 rfl; omega
      | false => have := hf0 rfl; omega
    cases kids with
    | nil => exact absurd hl (by decide)
    | cons k' c' le' mo' nu' kids' rest' =>
      exact (sem_rep ih.1 le mo h.1 hlm).congr (fun xs => by
        unfold code1
        rw [if_neg k0, if_neg k1, if_neg k2, if_neg k3, if_neg k4]
        rfl) (fun i j => Iff.rfl)
/-- What a tree matches. -/
def relT (bs : List Int) (t : Pt) : Rel := (rels bs t).headD idR
/-- What a text that is a pattern matches is where ends says. -/
theorem parse_ends {s : ByteArray} {fold : Bool} {z : Int} {xs : List ST} (h : parseR s fold = .ok z xs) : ∃ t q, readR s fold = .ok t q ∧ z = (sizes t).headD 0 ∧ t.good ∧ ∀ (bs : List Int) (i0 : Nat), i0 ≤ bs.length → EndsOf (fun j => j ≤ bs.length ∧ relT bs t i0 j) (endsP xs bs i0) := by
  have hok := parseR_ok h
  unfold parseR at h
  rw [if_neg (by omega)] at h
  cases hR : readR s fold with
  | bad n => rw [hR] at h; cases h
  | ok t q =>
    rw [hR] at h
    simp only at h
    by_cases c2 : 300 < (sizes t).headD 0
    · rw [if_pos c2] at h; cases h
    rw [if_neg c2] at h
    cases h
    have hgood := readR_good (by omega) hR
    refine ⟨t, q, rfl, rfl, hgood, fun bs i0 hi => ?_⟩
    have he := endsP_ok _ bs i0 hok.1 hi
    have hsem : SemF bs ((codes t).headD id) (relT bs t) := by
      have hs := sem_codes bs t hgood.ok hgood.fit
      have ho := hgood.one
      cases t with
      | nil => exact ho.elim
      | cons k c le mo nu kids rest => exact hs.1
    obtain ⟨f, hf⟩ : ∃ f, (codes t).headD id = f := ⟨_, rfl⟩
    rw [hf] at hsem he ⊢
    obtain ⟨Y, hY⟩ : ∃ Y, f [] ++ [(⟨5, C4.nil, 0, 0⟩ : ST)] = Y := ⟨_, rfl⟩
    rw [hY] at he ⊢
    have hag : Agr Y (f []) ([] : List ST).length := fun k _ hk => by rw [← hY, List.getElem?_append_left hk]
    have hq : Y[(f []).length]? = some ⟨5, C4.nil, 0, 0⟩ := by rw [← hY]; simp
    have hend : ∀ n i e, AccN Y bs n (f []).length i e → e = i := fun n i e hn => by
      cases n with
      | zero => obtain ⟨s, _, _, h3⟩ := hn; exact h3
      | succ n =>
        rcases hn with ⟨s, _, _, h3⟩ | ⟨k', h1, _⟩ | ⟨_, ⟨u, h2, h3, _⟩, _⟩
        · exact h3
        · rw [stepE_of hq] at h1; simp at h1
        · rw [hq] at h2; cases h2; exact absurd h3 (by decide)
    have key : ∀ j, Fnd Y bs i0 j ↔ relT bs t i0 j := fun j => by
      rw [Fnd_acc]
      constructor
      · rintro ⟨n, hn⟩
        obtain ⟨j', m, _, h2, h3⟩ := hsem.fwd [] Y hag n i0 j hn
        have := hend m j' j h3
        rw [this]; exact h2
      · intro hm
        exact hsem.bwd [] Y hag i0 j j hm ⟨0, _, hq, rfl, rfl⟩
    refine ⟨he.ord, fun e => (he.mem e).trans ?_⟩
    constructor
    · rintro ⟨j, a, b, c⟩; exact ⟨j, a, b, (key j).1 c⟩
    · rintro ⟨j, a, b, c⟩; exact ⟨j, a, b, (key j).2 c⟩
end Go.Proofs.Ytclgnefeankbgaa.M
