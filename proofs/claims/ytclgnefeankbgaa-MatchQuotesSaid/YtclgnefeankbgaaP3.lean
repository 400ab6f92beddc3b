/- What a tree's steps match: repetitions, alternatives, all of it. No program in sight. Conditions: as each theorem says. -/
import Derived.Test.YtclgnefeankbgaaP2
namespace Go.Proofs.Ytclgnefeankbgaa.M
open Go Go.RowKit
set_option linter.unusedVariables false
set_option linter.unusedSimpArgs false
theorem setB_get (xs : List ST) (i : Nat) (n : Int) (k : Nat) : (setB xs i n)[k]? = if k = i then xs[k]?.map (fun s => { s with b := n }) else xs[k]? := by
  unfold setB
  rw [List.getElem?_modify]
  by_cases h : k = i
  · subst h; rw [if_pos rfl]; cases xs[k]? <;> simp
  · have e : ¬ i = k := fun e => h e.symm
    rw [if_neg h]; cases xs[k]? <;> simp [e]
theorem setA_get (xs : List ST) (i : Nat) (n : Int) (k : Nat) : (setA xs i n)[k]? = if k = i then xs[k]?.map (fun s => { s with a := n }) else xs[k]? := by
  unfold setA
  rw [List.getElem?_modify]
  by_cases h : k = i
  · subst h; rw [if_pos rfl]; cases xs[k]? <;> simp
  · have e : ¬ i = k := fun e => h e.symm
    rw [if_neg h]; cases xs[k]? <;> simp [e]
theorem patchA_get : ∀ (l : List Nat) (xs : List ST) (k : Nat), (patchA l xs)[k]? = if k ∈ l then xs[k]?.map (fun s => { s with a := (xs.length : Int) }) else xs[k]?
  | [], xs, k => by simp [patchA]
  | i :: l, xs, k => by
    have e : patchA (i :: l) xs = patchA l (setA xs i xs.length) := rfl
    rw [e, patchA_get l, setA_get, setA_len]
    by_cases h : k = i
    · subst h
      by_cases h2 : k ∈ l
      · simp [h2]; cases xs[k]? <;> simp
      · simp [h2]
    · by_cases h2 : k ∈ l
      · simp [h2, h]
      · simp [h2, h]
theorem patchB_get : ∀ (l : List Nat) (xs : List ST) (k : Nat), (patchB l xs)[k]? = if k ∈ l then xs[k]?.map (fun s => { s with b := (xs.length : Int) }) else xs[k]?
  | [], xs, k => by simp [patchB]
  | i :: l, xs, k => by
    have e : patchB (i :: l) xs = patchB l (setB xs i xs.length) := rfl
    rw [e, patchB_get l, setB_get, setB_len]
    by_cases h : k = i
    · subst h
      by_cases h2 : k ∈ l
      · simp [h2]; cases xs[k]? <;> simp
      · simp [h2]
    · by_cases h2 : k ∈ l
      · simp [h2, h]
      · simp [h2, h]
theorem pre_split (xs : List ST) : Pre xs (splitA xs) := by rw [splitA_eq]; exact .app _ _
theorem split_at (xs : List ST) : (splitA xs)[xs.length]? = some ⟨3, C4.nil, (xs.length : Int) + 1, 0⟩ := by rw [splitA_eq]; simp
theorem take_pre {xs ys : List ST} (h : Pre xs ys) : ys.take xs.length = xs := by
  have hl := h.le
  apply List.ext_getElem?
  intro k
  rw [List.getElem?_take]
  by_cases c : k < xs.length
  · rw [if_pos c, h k c]
  · rw [if_neg c, List.getElem?_eq_none (by omega)]
theorem itR_id {M : Rel} (h : ∀ i j, M i j ↔ i = j) : ∀ (n i j : Nat), itR M n i j ↔ i = j
  | 0, i, j => Iff.rfl
  | n + 1, i, j => by
    constructor
    · rintro ⟨k, a, b⟩; exact ((h _ _).1 a).trans ((itR_id h n _ _).1 b)
    · intro e; exact ⟨i, (h _ _).2 rfl, (itR_id h n _ _).2 e⟩
theorem itR_add {M : Rel} : ∀ {n m i k j : Nat}, itR M n i k → itR M m k j → itR M (n + m) i j
  | 0, m, i, k, j, h, h' => by cases h; rw [Nat.zero_add]; exact h'
  | n + 1, m, i, k, j, ⟨l, a, b⟩, h' => by
    rw [Nat.succ_add]
    exact ⟨l, a, itR_add b h'⟩
/-- From so many times on, up to a number. -/
def repM (M : Rel) (le : Nat) (mo : Option Nat) : Rel := fun i j => ∃ n, le ≤ n ∧ (∀ m, mo = some m → n ≤ m) ∧ itR M n i j
theorem repM_id {M : Rel} (h : ∀ i j, M i j ↔ i = j) (le : Nat) (mo : Option Nat) (hm : ∀ m, mo = some m → le ≤ m) (i j : Nat) : repM M le mo i j ↔ i = j := by
  constructor
  · rintro ⟨n, _, _, a⟩; exact (itR_id h n i j).1 a
  · intro e; exact ⟨le, Nat.le_refl _, hm, (itR_id h le i j).2 e⟩
section
variable {bs : List Int} {f : List ST → List ST} {M : Rel}
def starC (f : List ST → List ST) (xs : List ST) : List ST :=
  if (f (splitA xs)).length = xs.length + 1 then (f (splitA xs)).take xs.length
  else setB (f (splitA xs) ++ [⟨4, C4.nil, xs.length, 0⟩]) xs.length (((f (splitA xs)).length : Int) + 1)
theorem sem_star (h : SemF bs f M) : SemF bs (starC f) (repM M 0 none) := by
  have hlo : ∀ m, (none : Option Nat) = some m → 0 ≤ m := fun m e => by cases e
  have hpx : ∀ xs, Pre xs (f (splitA xs)) := fun xs => (pre_split xs).trans (h.pre _)
  have hid : ∀ xs, (f (splitA xs)).length = xs.length + 1 → starC f xs = xs ∧ ∀ i j, M i j ↔ i = j := fun xs hl => by
    unfold starC
    rw [if_pos hl]
    exact ⟨take_pre (hpx xs), h.emp (splitA xs) (by rw [splitA_len]; exact hl)⟩
  have hlen : ∀ xs, ¬ (f (splitA xs)).length = xs.length + 1 → (starC f xs).length = (f (splitA xs)).length + 1 ∧ xs.length + 1 < (f (splitA xs)).length := fun xs hl => by
    have h1 := (h.pre (splitA xs)).le
    rw [splitA_len] at h1
    unfold starC
    rw [if_neg hl, setB_len, List.length_append]
    exact ⟨rfl, by omega⟩
  have hget : ∀ xs, ¬ (f (splitA xs)).length = xs.length + 1 → ∀ k, (starC f xs)[k]? = if k = xs.length then some ⟨3, C4.nil, (xs.length : Int) + 1, ((f (splitA xs)).length : Int) + 1⟩ else if k = (f (splitA xs)).length then some ⟨4, C4.nil, xs.length, 0⟩ else (f (splitA xs))[k]? := fun xs hl k => by
    have hlt := (hlen xs hl).2
    unfold starC
    rw [if_neg hl, setB_get]
    by_cases e : k = xs.length
    · rw [if_pos e, if_pos e, List.getElem?_append_left (by omega), e, h.pre (splitA xs) _ (by rw [splitA_len]; omega), split_at]
      rfl
    · rw [if_neg e, if_neg e]
      by_cases e2 : k = (f (splitA xs)).length
      · rw [if_pos e2, e2]; simp
      · rw [if_neg e2]
        rcases Nat.lt_or_ge k (f (splitA xs)).length with h3 | h3
        · rw [List.getElem?_append_left h3]
        · rw [List.getElem?_eq_none (by simp; omega), List.getElem?_eq_none h3]
  have hbody : ∀ xs Y, ¬ (f (splitA xs)).length = xs.length + 1 → Agr Y (starC f xs) xs.length → Y[xs.length]? = some ⟨3, C4.nil, ((xs.length + 1 : Nat) : Int), (((f (splitA xs)).length + 1 : Nat) : Int)⟩ ∧ Y[(f (splitA xs)).length]? = some ⟨4, C4.nil, (xs.length : Int), 0⟩ ∧ Agr Y (f (splitA xs)) (splitA xs).length := fun xs Y hl ha => by
    obtain ⟨l1, l2⟩ := hlen xs hl
    refine ⟨?_, ?_, fun k h1 h2 => ?_⟩
    · rw [ha _ (Nat.le_refl _) (by omega), hget xs hl, if_pos rfl]; rfl
    · rw [ha _ (by omega) (by omega), hget xs hl, if_neg (by omega), if_pos rfl]
    · rw [splitA_len] at h1
      rw [ha k (by omega) (by omega), hget xs hl, if_neg (by omega), if_neg (by omega)]
  refine ⟨fun xs => ?_, fun xs hl i j => ?_, fun xs Y ha n i e hn => ?_, fun xs Y ha i j e hm hc => ?_⟩
  · by_cases c : (f (splitA xs)).length = xs.length + 1
    · rw [(hid xs c).1]; exact .refl _
    · intro k hk
      rw [hget xs c, if_neg (by omega), if_neg (by have := (hlen xs c).2; omega)]
      exact hpx xs k hk
  · by_cases c : (f (splitA xs)).length = xs.length + 1
    · exact repM_id (hid xs c).2 0 none hlo i j
    · have := hlen xs c; omega
  · by_cases c : (f (splitA xs)).length = xs.length + 1
    · rw [(hid xs c).1]
      exact ⟨i, n, Nat.le_refl _, (repM_id (hid xs c).2 0 none hlo i i).2 rfl, hn⟩
    · obtain ⟨y1, y2, y3⟩ := hbody xs Y c ha
      rw [(hlen xs c).1]
      have key : ∀ n i, AccN Y bs n xs.length i e → ∃ j m, m ≤ n ∧ repM M 0 none i j ∧ AccN Y bs m ((f (splitA xs)).length + 1) j e := by
        intro n
        induction n using Nat.strongRecOn with
        | _ n ih =>
          intro i hn
          obtain ⟨m, hm, h1 | h1⟩ := acc_split y1 hn
          · rw [← splitA_len] at h1
            obtain ⟨j, m2, h2, h3, h4⟩ := h.fwd (splitA xs) Y y3 m i e h1
            obtain ⟨m3, h5, h6⟩ := acc_jump y2 h4
            obtain ⟨j', m4, k1, ⟨t, _, _, k2⟩, k3⟩ := ih m3 (by omega) j h6
            exact ⟨j', m4, by omega, ⟨t + 1, Nat.zero_le _, (fun m e => by cases e), j, h3, k2⟩, k3⟩
          · exact ⟨i, m, by omega, ⟨0, Nat.le_refl _, (fun m e => by cases e), rfl⟩, h1⟩
      exact key n i hn
  · by_cases c : (f (splitA xs)).length = xs.length + 1
    · rw [(hid xs c).1] at hc
      have := (repM_id (hid xs c).2 0 none hlo i j).1 hm
      subst this
      exact hc
    · obtain ⟨y1, y2, y3⟩ := hbody xs Y c ha
      rw [(hlen xs c).1] at hc
      obtain ⟨t, _, _, ht⟩ := hm
      have key : ∀ t i, itR M t i j → Acc Y bs xs.length i e := by
        intro t
        induction t with
        | zero => intro i hi; cases hi; exact acc_split_b y1 hc
        | succ t ih =>
          rintro i ⟨k, a, b⟩
          refine acc_split_a y1 ?_
          rw [← splitA_len]
          exact h.bwd (splitA xs) Y y3 i k e a (acc_jump_a y2 (ih k b))
      exact key t i ht
/-- Once and on: the steps, then back. -/
def onceC (f : List ST → List ST) (ys : List ST) : List ST :=
  if ys.length < (f ys).length then setB (f ys ++ [⟨3, C4.nil, ys.length, 0⟩]) (f ys).length (((f ys).length : Int) + 1) else f ys
theorem sem_once (h : SemF bs f M) : SemF bs (onceC f) (repM M 1 none) := by
  have hno : ∀ n m, (none : Option Nat) = some m → n ≤ m := fun n m e => by cases e
  have hid : ∀ xs, ¬ xs.length < (f xs).length → (onceC f xs).length = xs.length ∧ onceC f xs = f xs ∧ ∀ i j, M i j ↔ i = j := fun xs hl => by
    have h1 := (h.pre xs).le
    unfold onceC
    rw [if_neg hl]
    exact ⟨by omega, rfl, h.emp xs (by omega)⟩
  have hlen : ∀ xs, xs.length < (f xs).length → (onceC f xs).length = (f xs).length + 1 := fun xs hl => by
    unfold onceC
    rw [if_pos hl, setB_len, List.length_append]
    rfl
  have hget : ∀ xs, xs.length < (f xs).length → ∀ k, (onceC f xs)[k]? = if k = (f xs).length then some ⟨3, C4.nil, xs.length, ((f xs).length : Int) + 1⟩ else (f xs)[k]? := fun xs hl k => by
    unfold onceC
    rw [if_pos hl, setB_get]
    by_cases e : k = (f xs).length
    · rw [if_pos e, if_pos e, e]; simp
    · rw [if_neg e, if_neg e]
      rcases Nat.lt_or_ge k (f xs).length with h3 | h3
      · rw [List.getElem?_append_left h3]
      · rw [List.getElem?_eq_none (by simp; omega), List.getElem?_eq_none h3]
  have hbody : ∀ xs Y, xs.length < (f xs).length → Agr Y (onceC f xs) xs.length → Y[(f xs).length]? = some ⟨3, C4.nil, (xs.length : Int), (((f xs).length + 1 : Nat) : Int)⟩ ∧ Agr Y (f xs) xs.length := fun xs Y hl ha => by
    have l1 := hlen xs hl
    refine ⟨?_, fun k h1 h2 => ?_⟩
    · rw [ha _ (by omega) (by omega), hget xs hl, if_pos rfl]; rfl
    · rw [ha k h1 (by omega), hget xs hl, if_neg (by omega)]
  refine ⟨fun xs => ?_, fun xs hl i j => ?_, fun xs Y ha n i e hn => ?_, fun xs Y ha i j e hm hc => ?_⟩
  · by_cases c : xs.length < (f xs).length
    · intro k hk
      rw [hget xs c, if_neg (by omega)]
      exact h.pre xs k hk
    · rw [(hid xs c).2.1]; exact h.pre xs
  · by_cases c : xs.length < (f xs).length
    · have := hlen xs c; omega
    · exact repM_id (hid xs c).2.2 1 none (hno 1) i j
  · by_cases c : xs.length < (f xs).length
    · obtain ⟨y1, y2⟩ := hbody xs Y c ha
      rw [hlen xs c]
      have key : ∀ n i, AccN Y bs n xs.length i e → ∃ j m, m ≤ n ∧ repM M 1 none i j ∧ AccN Y bs m ((f xs).length + 1) j e := by
        intro n
        induction n using Nat.strongRecOn with
        | _ n ih =>
          intro i hn
          obtain ⟨j, m, h2, h3, h4⟩ := h.fwd xs Y y2 n i e hn
          obtain ⟨m2, hm2, h5 | h5⟩ := acc_split y1 h4
          · obtain ⟨j', m4, k1, ⟨t, t1, _, k2⟩, k3⟩ := ih m2 (by omega) j h5
            exact ⟨j', m4, by omega, ⟨t + 1, by omega, hno _, j, h3, k2⟩, k3⟩
          · exact ⟨j, m2, by omega, ⟨1, Nat.le_refl _, hno _, j, h3, rfl⟩, h5⟩
      exact key n i hn
    · obtain ⟨l1, l2, l3⟩ := hid xs c
      rw [l1]
      exact ⟨i, n, Nat.le_refl _, (repM_id l3 1 none (hno 1) i i).2 rfl, hn⟩
  · by_cases c : xs.length < (f xs).length
    · obtain ⟨y1, y2⟩ := hbody xs Y c ha
      rw [hlen xs c] at hc
      obtain ⟨t, t1, _, ht⟩ := hm
      have key : ∀ t i, itR M (t + 1) i j → Acc Y bs xs.length i e := by
        intro t
        induction t with
        | zero =>
          rintro i ⟨k, a, b⟩
          cases b
          exact h.bwd xs Y y2 i j e a (acc_split_b y1 hc)
        | succ t ih =>
          rintro i ⟨k, a, b⟩
          exact h.bwd xs Y y2 i k e a (acc_split_a y1 (ih k b))
      obtain ⟨t', rfl⟩ : ∃ t', t = t' + 1 := ⟨t - 1, by omega⟩
      exact key t' i ht
    · obtain ⟨l1, l2, l3⟩ := hid xs c
      rw [l1] at hc
      have := (repM_id l3 1 none (hno 1) i j).1 hm
      subst this
      exact hc
/-- Up to so many times: what the splits are like. -/
theorem optC_sem (h : SemF bs f M) : ∀ (n : Nat) (e0 : List Nat) (xs : List ST), ∃ new, (optC f n e0 xs).1 = e0 ++ new ∧ Pre xs (optC f n e0 xs).2 ∧ (∀ k ∈ new, xs.length ≤ k ∧ k < (optC f n e0 xs).2.length ∧ (optC f n e0 xs).2[k]? = some ⟨3, C4.nil, (k : Int) + 1, 0⟩) ∧
    ((optC f n e0 xs).2.length = xs.length → ∀ i j, repM M 0 (some n) i j ↔ i = j) ∧
    ∀ Y, (∀ k, xs.length ≤ k → k < (optC f n e0 xs).2.length → k ∉ new → Y[k]? = (optC f n e0 xs).2[k]?) → (∀ k ∈ new, Y[k]? = some ⟨3, C4.nil, (k : Int) + 1, ((optC f n e0 xs).2.length : Int)⟩) →
      (∀ m i e, AccN Y bs m xs.length i e → ∃ j m', m' ≤ m ∧ repM M 0 (some n) i j ∧ AccN Y bs m' (optC f n e0 xs).2.length j e) ∧ (∀ i j e, repM M 0 (some n) i j → Acc Y bs (optC f n e0 xs).2.length j e → Acc Y bs xs.length i e)
  | 0, e0, xs => by
    have h0 : ∀ i j, repM M 0 (some 0) i j ↔ i = j := fun i j => by
      constructor
      · rintro ⟨t, _, ht, hi⟩
        have := ht 0 rfl
        have e : t = 0 := by omega
        subst e
        exact hi
      · intro e; exact ⟨0, Nat.le_refl _, (fun m e => by omega), e⟩
    rw [optC]
    refine ⟨[], by simp, .refl _, (fun k hk => by cases hk), fun _ => h0, fun Y _ _ => ⟨fun m i e hm => ⟨i, m, Nat.le_refl _, (h0 i i).2 rfl, hm⟩, fun i j e hm hc => by have := (h0 i j).1 hm; subst this; exact hc⟩⟩
  | n + 1, e0, xs => by
    have hpx : Pre xs (f (splitA xs)) := (pre_split xs).trans (h.pre _)
    have hle := (h.pre (splitA xs)).le
    rw [splitA_len] at hle
    rw [optC]
    by_cases c : (f (splitA xs)).length = xs.length + 1
    · rw [if_pos c]
      have hid := h.emp (splitA xs) (by rw [splitA_len]; exact c)
      have h0 := repM_id hid 0 (some (n + 1)) (fun m _ => Nat.zero_le m)
      simp only [take_pre hpx]
      exact ⟨[], by simp, .refl _, (fun k hk => by cases hk), fun _ => h0, fun Y _ _ => ⟨fun m i e hm => ⟨i, m, Nat.le_refl _, (h0 i i).2 rfl, hm⟩, fun i j e hm hc => by have := (h0 i j).1 hm; subst this; exact hc⟩⟩
    · rw [if_neg c]
      obtain ⟨new, a1, a2, a3, a4, a5⟩ := optC_sem h n (e0 ++ [xs.length]) (f (splitA xs))
      obtain ⟨q, hq⟩ : ∃ q, optC f n (e0 ++ [xs.length]) (f (splitA xs)) = q := ⟨_, rfl⟩
      rw [hq] at a1 a2 a3 a4 a5 ⊢
      have hl2 := a2.le
      have hat : q.2[xs.length]? = some ⟨3, C4.nil, (xs.length : Int) + 1, 0⟩ := by
        rw [a2 _ (by omega), h.pre (splitA xs) _ (by rw [splitA_len]; omega), split_at]
      refine ⟨xs.length :: new, by rw [a1, List.append_assoc]; rfl, hpx.trans a2, ?_, fun hl => by omega, fun Y y1 y2 => ?_⟩
      · intro k hk
        rcases List.mem_cons.1 hk with rfl | hk
        · exact ⟨Nat.le_refl _, by omega, hat⟩
        · obtain ⟨b1, b2, b3⟩ := a3 k hk
          exact ⟨by omega, b2, b3⟩
      · have hsp := y2 xs.length List.mem_cons_self
        have hsp' : Y[xs.length]? = some ⟨3, C4.nil, ((xs.length + 1 : Nat) : Int), (q.2.length : Int)⟩ := hsp
        have hag : Agr Y (f (splitA xs)) (splitA xs).length := fun k h1 h2 => by
          rw [splitA_len] at h1
          rw [y1 k (by omega) (by omega) (fun hm => by
            rcases List.mem_cons.1 hm with rfl | hm
            · omega
            · have := (a3 k hm).1; omega)]
          exact a2 k h2
        obtain ⟨f1, f2⟩ := a5 Y (fun k h1 h2 h3 => y1 k (by omega) h2 (fun hm => by
          rcases List.mem_cons.1 hm with rfl | hm
          · omega
          · exact h3 hm)) (fun k hk => y2 k (List.mem_cons_of_mem _ hk))
        refine ⟨fun m i e hm => ?_, fun i j e hm hc => ?_⟩
        · obtain ⟨m1, hm1, h1 | h1⟩ := acc_split hsp' hm
          · rw [← splitA_len] at h1
            obtain ⟨j, m2, h2, h3, h4⟩ := h.fwd (splitA xs) Y hag m1 i e h1
            obtain ⟨j', m3, h5, ⟨t, _, t2, t3⟩, h6⟩ := f1 m2 j e h4
            exact ⟨j', m3, by omega, ⟨t + 1, Nat.zero_le _, (fun m e => by cases e; have := t2 n rfl; omega), j, h3, t3⟩, h6⟩
          · exact ⟨i, m1, by omega, ⟨0, Nat.le_refl _, (fun m _ => Nat.zero_le m), rfl⟩, h1⟩
        · obtain ⟨t, _, t2, t3⟩ := hm
          cases t with
          | zero => cases t3; exact acc_split_b hsp' hc
          | succ t =>
            obtain ⟨k, b1, b2⟩ := t3
            refine acc_split_a hsp' ?_
            rw [← splitA_len]
            refine h.bwd (splitA xs) Y hag i k e b1 (f2 k j e ⟨t, Nat.zero_le _, (fun m e => by cases e; have := t2 (n + 1) rfl; omega), b2⟩ hc)
theorem sem_opt (h : SemF bs f M) (n : Nat) : SemF bs (fun xs => patchB (optC f n [] xs).1 (optC f n [] xs).2) (repM M 0 (some n)) := by
  have hall := fun xs => optC_sem h n [] xs
  have hg : ∀ xs new, (optC f n [] xs).1 = [] ++ new → (∀ k ∈ new, xs.length ≤ k ∧ k < (optC f n [] xs).2.length ∧ (optC f n [] xs).2[k]? = some ⟨3, C4.nil, (k : Int) + 1, 0⟩) → ∀ k, (patchB (optC f n [] xs).1 (optC f n [] xs).2)[k]? = if k ∈ new then some ⟨3, C4.nil, (k : Int) + 1, ((optC f n [] xs).2.length : Int)⟩ else (optC f n [] xs).2[k]? := fun xs new h1 h3 k => by
    rw [patchB_get, h1, List.nil_append]
    by_cases hk : k ∈ new
    · rw [if_pos hk, if_pos hk, (h3 k hk).2.2]; rfl
    · rw [if_neg hk, if_neg hk]
  refine ⟨fun xs => ?_, fun xs hl => ?_, fun xs Y ha m i e hn => ?_, fun xs Y ha i j e hm hc => ?_⟩
  · obtain ⟨new, a1, a2, a3, _⟩ := hall xs
    intro k hk
    rw [hg xs new a1 a3, if_neg (fun hm => by have := (a3 k hm).1; omega)]
    exact a2 k hk
  · obtain ⟨new, a1, a2, a3, a4, _⟩ := hall xs
    rw [patchB_len] at hl
    exact a4 hl
  · obtain ⟨new, a1, a2, a3, a4, a5⟩ := hall xs
    rw [patchB_len]
    refine (a5 Y (fun k h1 h2 h3 => ?_) (fun k hk => ?_)).1 m i e hn
    · rw [ha k h1 (by rw [patchB_len]; exact h2), hg xs new a1 a3, if_neg h3]
    · rw [ha k (a3 k hk).1 (by rw [patchB_len]; exact (a3 k hk).2.1), hg xs new a1 a3, if_pos hk]
  · obtain ⟨new, a1, a2, a3, a4, a5⟩ := hall xs
    rw [patchB_len] at hc
    refine (a5 Y (fun k h1 h2 h3 => ?_) (fun k hk => ?_)).2 i j e hm hc
    · rw [ha k h1 (by rw [patchB_len]; exact h2), hg xs new a1 a3, if_neg h3]
    · rw [ha k (a3 k hk).1 (by rw [patchB_len]; exact (a3 k hk).2.1), hg xs new a1 a3, if_pos hk]
/-- A repetition. -/
theorem sem_rep (h : SemF bs f M) (le mo : Int) (h0 : 0 ≤ le) (h1 : mo < 0 ∨ le ≤ mo) : SemF bs (repC le mo f) (repM M le.toNat (if mo < 0 then none else some mo.toNat)) := by
  obtain ⟨l, rfl⟩ : ∃ l : Nat, le = (l : Int) := ⟨le.toNat, by omega⟩
  rw [Int.toNat_natCast]
  by_cases c : mo < 0
  · rw [if_pos c]
    cases l with
    | zero =>
      refine (sem_star h).congr (fun xs => ?_) (fun i j => Iff.rfl)
      unfold starC repC
      rw [if_pos (show mo < 0 ∧ ((0 : Nat) : Int) = 0 from ⟨c, rfl⟩)]
    | succ m =>
      refine (SemF.seq (sem_iter h m) (sem_once h)).congr (fun xs => ?_) (fun i j => ?_)
      · unfold onceC repC
        have e : (((m + 1 : Nat) : Int) - 1).toNat = m := by omega
        rw [if_neg (show ¬ (mo < 0 ∧ ((m + 1 : Nat) : Int) = 0) from fun h => by omega), if_pos c, e]
      · constructor
        · rintro ⟨k, a, n, b1, b2, b3⟩
          exact ⟨m + n, by omega, (fun m e => by cases e), itR_add a b3⟩
        · rintro ⟨n, b1, b2, b3⟩
          obtain ⟨t, rfl⟩ : ∃ t, n = m + t := ⟨n - m, by omega⟩
          have key : ∀ (m t i j : Nat), itR M (m + t) i j → ∃ k, itR M m i k ∧ itR M t k j := by
            intro m
            induction m with
            | zero => intro t i j h; rw [Nat.zero_add] at h; exact ⟨i, rfl, h⟩
            | succ m ih =>
              intro t i j h
              rw [Nat.succ_add] at h
              obtain ⟨k, a, b⟩ := h
              obtain ⟨k', c1, c2⟩ := ih t k j b
              exact ⟨k', ⟨k, a, c1⟩, c2⟩
          obtain ⟨k, c1, c2⟩ := key m t i j b3
          exact ⟨k, c1, t, by omega, (fun m e => by cases e), c2⟩
  · rw [if_neg c]
    obtain ⟨m, rfl⟩ : ∃ m : Nat, mo = (m : Int) := ⟨mo.toNat, by omega⟩
    rw [Int.toNat_natCast]
    refine (SemF.seq (sem_iter h l) (sem_opt h (m - l))).congr (fun xs => ?_) (fun i j => ?_)
    · unfold repC
      have e1 : ((l : Int)).toNat = l := by omega
      have e2 : ((m : Int) - (l : Int)).toNat = m - l := by omega
      rw [if_neg (fun h => by omega), if_neg c, e1, e2]
    · constructor
      · rintro ⟨k, a, n, b1, b2, b3⟩
        have := b2 _ rfl
        exact ⟨l + n, by omega, (fun m e => by cases e; omega), itR_add a b3⟩
      · rintro ⟨n, b1, b2, b3⟩
        have hnm := b2 _ rfl
        obtain ⟨t, rfl⟩ : ∃ t, n = l + t := ⟨n - l, by omega⟩
        have key : ∀ (m t i j : Nat), itR M (m + t) i j → ∃ k, itR M m i k ∧ itR M t k j := by
          intro m
          induction m with
          | zero => intro t i j h; rw [Nat.zero_add] at h; exact ⟨i, rfl, h⟩
          | succ m ih =>
            intro t i j h
            rw [Nat.succ_add] at h
            obtain ⟨k, a, b⟩ := h
            obtain ⟨k', c1, c2⟩ := ih t k j b
            exact ⟨k', ⟨k, a, c1⟩, c2⟩
        obtain ⟨k, c1, c2⟩ := key l t i j b3
        exact ⟨k, c1, t, Nat.zero_le _, (fun m e => by cases e; omega), c2⟩
end
end Go.Proofs.Ytclgnefeankbgaa.M
