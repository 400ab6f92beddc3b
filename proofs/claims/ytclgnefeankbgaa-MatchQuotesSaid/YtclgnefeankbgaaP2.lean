/- What the steps of a tree match: as relations. No program in sight. Conditions: as each theorem says. -/
import Derived.Test.YtclgnefeankbgaaP1
namespace Go.Proofs.Ytclgnefeankbgaa.M
open Go Go.RowKit
set_option linter.unusedVariables false
set_option linter.unusedSimpArgs false
abbrev Rel := Nat → Nat → Prop
/-- A match is reached in so many steps. -/
def AccN (Y : List ST) (bs : List Int) : Nat → Nat → Nat → Nat → Prop
  | 0, k, i, e => ∃ s, Y[k]? = some s ∧ s.op = 5 ∧ e = i
  | n + 1, k, i, e => (∃ s, Y[k]? = some s ∧ s.op = 5 ∧ e = i) ∨ (∃ k', stepE Y bs.length i k k' ∧ AccN Y bs n k' i e) ∨ (i < bs.length ∧ stepB Y bs i k ∧ AccN Y bs n (k + 1) (i + 1) e)
def Acc (Y : List ST) (bs : List Int) (k i e : Nat) : Prop := ∃ n, AccN Y bs n k i e
section
variable {Y : List ST} {bs : List Int}
theorem AccN.more : ∀ {n k i e : Nat}, AccN Y bs n k i e → AccN Y bs (n + 1) k i e
  | 0, k, i, e, h => .inl h
  | n + 1, k, i, e, h => by
    rcases h with h | ⟨k', h1, h2⟩ | ⟨h1, h2, h3⟩
    · exact .inl h
    · exact .inr (.inl ⟨k', h1, h2.more⟩)
    · exact .inr (.inr ⟨h1, h2, h3.more⟩)
theorem AccN.mono {n m k i e : Nat} (h : AccN Y bs n k i e) (hm : n ≤ m) : AccN Y bs m k i e := by
  induction hm with
  | refl => exact h
  | step _ ih => exact ih.more
theorem Fnd_acc {i0 e : Nat} : Fnd Y bs i0 e ↔ Acc Y bs 0 i0 e := by
  constructor
  · rintro ⟨k, s, hr, hx, ho⟩
    have key : ∀ {k i : Nat}, Rch Y bs i0 k i → ∀ e, Acc Y bs k i e → Acc Y bs 0 i0 e := by
      intro k i h
      induction h with
      | start => intro e h; exact h
      | eps h hs ih => intro e h; obtain ⟨n, hn⟩ := h; exact ih e ⟨n + 1, .inr (.inl ⟨_, hs, hn⟩)⟩
      | byte h hi hs ih => intro e h; obtain ⟨n, hn⟩ := h; exact ih e ⟨n + 1, .inr (.inr ⟨hi, hs, hn⟩)⟩
    exact key hr e ⟨0, s, hx, ho, rfl⟩
  · rintro ⟨n, hn⟩
    have key : ∀ (n k i : Nat), Rch Y bs i0 k i → AccN Y bs n k i e → Fnd Y bs i0 e := by
      intro n
      induction n with
      | zero =>
        rintro k i hr ⟨s, h1, h2, rfl⟩
        exact ⟨k, s, hr, h1, h2⟩
      | succ n ih =>
        rintro k i hr (⟨s, h1, h2, rfl⟩ | ⟨k', h1, h2⟩ | ⟨h1, h2, h3⟩)
        · exact ⟨k, s, hr, h1, h2⟩
        · exact ih k' i (hr.eps h1) h2
        · exact ih (k + 1) (i + 1) (hr.byte h1 h2) h3
    exact key n 0 i0 .start hn
/-- A step of a kind, taken. -/
theorem acc_split {n p i e a b : Nat} {c : C4} (hY : Y[p]? = some ⟨3, c, (a : Int), (b : Int)⟩) (h : AccN Y bs n p i e) : ∃ m, m < n ∧ (AccN Y bs m a i e ∨ AccN Y bs m b i e) := by
  cases n with
  | zero =>
    obtain ⟨s, h1, h2, _⟩ := h
    rw [hY] at h1; cases h1; exact absurd h2 (by simp)
  | succ n =>
    rcases h with ⟨s, h1, h2, _⟩ | ⟨k', h1, h2⟩ | ⟨_, ⟨s, h1, h2, _⟩, _⟩
    · rw [hY] at h1; cases h1; exact absurd h2 (by simp)
    · rw [stepE_of hY] at h1
      simp at h1
      rcases h1 with rfl | rfl
      · exact ⟨n, Nat.lt_succ_self n, .inl h2⟩
      · exact ⟨n, Nat.lt_succ_self n, .inr h2⟩
    · rw [hY] at h1; cases h1; exact absurd h2 (by simp)
theorem acc_jump {n p i e a : Nat} {c : C4} {b : Int} (hY : Y[p]? = some ⟨4, c, (a : Int), b⟩) (h : AccN Y bs n p i e) : ∃ m, m < n ∧ AccN Y bs m a i e := by
  cases n with
  | zero =>
    obtain ⟨s, h1, h2, _⟩ := h
    rw [hY] at h1; cases h1; exact absurd h2 (by simp)
  | succ n =>
    rcases h with ⟨s, h1, h2, _⟩ | ⟨k', h1, h2⟩ | ⟨_, ⟨s, h1, h2, _⟩, _⟩
    · rw [hY] at h1; cases h1; exact absurd h2 (by simp)
    · rw [stepE_of hY] at h1
      simp at h1
      subst h1
      exact ⟨n, Nat.lt_succ_self n, h2⟩
    · rw [hY] at h1; cases h1; exact absurd h2 (by simp)
theorem acc_split_a {p i e a b : Nat} {c : C4} (hY : Y[p]? = some ⟨3, c, (a : Int), (b : Int)⟩) (h : Acc Y bs a i e) : Acc Y bs p i e := by
  obtain ⟨n, h⟩ := h
  exact ⟨n + 1, .inr (.inl ⟨a, (stepE_of hY).2 (by simp), h⟩)⟩
theorem acc_split_b {p i e a b : Nat} {c : C4} (hY : Y[p]? = some ⟨3, c, (a : Int), (b : Int)⟩) (h : Acc Y bs b i e) : Acc Y bs p i e := by
  obtain ⟨n, h⟩ := h
  exact ⟨n + 1, .inr (.inl ⟨b, (stepE_of hY).2 (by simp), h⟩)⟩
theorem acc_jump_a {p i e a : Nat} {c : C4} {b : Int} (hY : Y[p]? = some ⟨4, c, (a : Int), b⟩) (h : Acc Y bs a i e) : Acc Y bs p i e := by
  obtain ⟨n, h⟩ := h
  exact ⟨n + 1, .inr (.inl ⟨a, (stepE_of hY).2 (by simp), h⟩)⟩
end
def Agr (Y ys : List ST) (p : Nat) : Prop := ∀ k, p ≤ k → k < ys.length → Y[k]? = ys[k]?
def Pre (xs ys : List ST) : Prop := ∀ k, k < xs.length → ys[k]? = xs[k]?
theorem Pre.le {xs ys : List ST} (h : Pre xs ys) : xs.length ≤ ys.length := by
  cases hl : xs.length with
  | zero => exact Nat.zero_le _
  | succ n =>
    have h1 := h n (by omega)
    rcases Nat.lt_or_ge n ys.length with h2 | h2
    · omega
    · rw [List.getElem?_eq_none h2] at h1
      have := List.getElem?_eq_none_iff.1 h1.symm
      omega
theorem Pre.refl (xs : List ST) : Pre xs xs := fun _ _ => rfl
theorem Pre.trans {xs ys zs : List ST} (h : Pre xs ys) (k : Pre ys zs) : Pre xs zs := fun i hi => (k i (Nat.lt_of_lt_of_le hi h.le)).trans (h i hi)
theorem Pre.app (xs ys : List ST) : Pre xs (xs ++ ys) := fun k hk => List.getElem?_append_left hk
theorem Agr.sub {Y xs ys : List ST} {p : Nat} (h : Agr Y ys p) (hp : Pre xs ys) : Agr Y xs p := fun k h1 h2 => (h k h1 (Nat.lt_of_lt_of_le h2 hp.le)).trans (hp k h2)
theorem Agr.mono {Y ys : List ST} {p q : Nat} (h : Agr Y ys p) (hp : p ≤ q) : Agr Y ys q := fun k h1 h2 => h k (Nat.le_trans hp h1) h2
/-- What a writing matches. -/
structure SemF (bs : List Int) (f : List ST → List ST) (M : Rel) : Prop where
  pre : ∀ xs, Pre xs (f xs)
  emp : ∀ xs, (f xs).length = xs.length → ∀ i j, M i j ↔ i = j
  fwd : ∀ xs Y, Agr Y (f xs) xs.length → ∀ n i e, AccN Y bs n xs.length i e → ∃ j m, m ≤ n ∧ M i j ∧ AccN Y bs m (f xs).length j e
  bwd : ∀ xs Y, Agr Y (f xs) xs.length → ∀ i j e, M i j → Acc Y bs (f xs).length j e → Acc Y bs xs.length i e
def compR (M N : Rel) : Rel := fun i j => ∃ k, M i k ∧ N k j
def idR : Rel := fun i j => i = j
section
variable {bs : List Int} {f g : List ST → List ST} {M N : Rel}
theorem SemF.id : SemF bs (fun xs => xs) idR := ⟨fun xs => .refl xs, fun xs _ i j => Iff.rfl, fun xs Y _ n i e h => ⟨i, n, Nat.le_refl _, rfl, h⟩, fun xs Y _ i j e h h' => by cases h; exact h'⟩
theorem SemF.seq (h : SemF bs f M) (k : SemF bs g N) : SemF bs (fun xs => g (f xs)) (compR M N) := by
  refine ⟨fun xs => (h.pre xs).trans (k.pre _), fun xs hl i j => ?_, fun xs Y ha n i e hn => ?_, fun xs Y ha i j e hm hc => ?_⟩
  · have h1 := (h.pre xs).le
    have h2 := (k.pre (f xs)).le
    have e1 := h.emp xs (by omega)
    have e2 := k.emp (f xs) (by omega)
    unfold compR
    constructor
    · rintro ⟨m, a, b⟩
      exact ((e1 _ _).1 a).trans ((e2 _ _).1 b)
    · intro e; subst e; exact ⟨i, (e1 _ _).2 rfl, (e2 _ _).2 rfl⟩
  · obtain ⟨j, m, h1, h2, h3⟩ := h.fwd xs Y (ha.sub (k.pre _)) n i e hn
    obtain ⟨j', m', k1, k2, k3⟩ := k.fwd (f xs) Y (ha.mono (h.pre xs).le) m j e h3
    exact ⟨j', m', by omega, ⟨j, h2, k2⟩, k3⟩
  · obtain ⟨m, a, b⟩ := hm
    exact h.bwd xs Y (ha.sub (k.pre _)) i m e a (k.bwd (f xs) Y (ha.mono (h.pre xs).le) m j e b hc)
theorem SemF.congr (h : SemF bs f M) (hf : ∀ xs, f xs = g xs) (hM : ∀ i j, M i j ↔ N i j) : SemF bs g N := by
  have e : f = g := funext hf
  subst e
  exact ⟨h.pre, fun xs hl i j => (hM i j).symm.trans (h.emp xs hl i j), fun xs Y ha n i e hn => by obtain ⟨j, m, a, b, c⟩ := h.fwd xs Y ha n i e hn; exact ⟨j, m, a, (hM i j).1 b, c⟩, fun xs Y ha i j e hm hc => h.bwd xs Y ha i j e ((hM i j).2 hm) hc⟩
end
def byteR (bs : List Int) (c : C4) : Rel := fun i j => i < bs.length ∧ hasC c (bs.getD i 0) = true ∧ j = i + 1
theorem sem_byte (bs : List Int) (c : C4) : SemF bs (fun xs => xs ++ [⟨0, c, 0, 0⟩]) (byteR bs c) := by
  have hget : ∀ xs Y, Agr Y (xs ++ [⟨0, c, 0, 0⟩]) xs.length → Y[xs.length]? = some ⟨0, c, 0, 0⟩ := fun xs Y ha => by rw [ha _ (Nat.le_refl _) (by simp)]; simp
  have hl : ∀ xs : List ST, (xs ++ [(⟨0, c, 0, 0⟩ : ST)]).length = xs.length + 1 := fun xs => by simp
  refine ⟨fun xs => .app _ _, fun xs h => by rw [hl] at h; omega, fun xs Y ha n i e hn => ?_, fun xs Y ha i j e hm hc => ?_⟩
  · have hY := hget xs Y ha
    cases n with
    | zero => obtain ⟨s, h1, h2, _⟩ := hn; rw [hY] at h1; cases h1; exact absurd h2 (by simp)
    | succ n =>
      rcases hn with ⟨s, h1, h2, _⟩ | ⟨k', h1, _⟩ | ⟨h1, ⟨u, h2, h3, h4⟩, h5⟩
      · rw [hY] at h1; cases h1; exact absurd h2 (by simp)
      · rw [stepE_of hY] at h1; simp at h1
      · rw [hY] at h2; cases h2
        exact ⟨i + 1, n, Nat.le_succ _, ⟨h1, h4, rfl⟩, by rw [hl]; exact h5⟩
  · obtain ⟨h1, h2, rfl⟩ := hm
    obtain ⟨n, hn⟩ := hc
    rw [hl] at hn
    exact ⟨n + 1, .inr (.inr ⟨h1, ⟨_, hget xs Y ha, rfl, h2⟩, hn⟩)⟩
def edgeR (a : Nat) : Rel := fun i j => i = a ∧ i = j
theorem sem_edge (bs : List Int) (op : Int) (a : Nat) (ho : (op = 1 ∧ a = 0) ∨ (op = 2 ∧ a = bs.length)) : SemF bs (fun xs => xs ++ [⟨op, C4.nil, 0, 0⟩]) (edgeR a) := by
  have hget : ∀ xs Y, Agr Y (xs ++ [⟨op, C4.nil, 0, 0⟩]) xs.length → Y[xs.length]? = some ⟨op, C4.nil, 0, 0⟩ := fun xs Y ha => by rw [ha _ (Nat.le_refl _) (by simp)]; simp
  have hl : ∀ xs : List ST, (xs ++ [(⟨op, C4.nil, 0, 0⟩ : ST)]).length = xs.length + 1 := fun xs => by simp
  refine ⟨fun xs => .app _ _, fun xs h => by rw [hl] at h; omega, fun xs Y ha n i e hn => ?_, fun xs Y ha i j e hm hc => ?_⟩
  · have hY := hget xs Y ha
    have h5 : op ≠ 5 := by omega
    have h0 : op ≠ 0 := by omega
    cases n with
    | zero => obtain ⟨s, h1, h2, _⟩ := hn; rw [hY] at h1; cases h1; exact absurd h2 h5
    | succ n =>
      rcases hn with ⟨s, h1, h2, _⟩ | ⟨k', h1, h2⟩ | ⟨h1, ⟨u, h2, h3, h4⟩, _⟩
      · rw [hY] at h1; cases h1; exact absurd h2 h5
      · rw [stepE_of hY] at h1
        simp only at h1
        have : i = a ∧ k' = xs.length + 1 := by omega
        exact ⟨i, n, Nat.le_succ _, ⟨this.1, rfl⟩, by rw [hl, ← this.2]; exact h2⟩
      · rw [hY] at h2; cases h2; exact absurd h3 h0
  · obtain ⟨rfl, rfl⟩ := hm
    obtain ⟨n, hn⟩ := hc
    rw [hl] at hn
    exact ⟨n + 1, .inr (.inl ⟨_, (stepE_of (hget xs Y ha)).2 (by
      rcases ho with ⟨h1, h2⟩ | ⟨h1, h2⟩
      · exact .inl ⟨h1, h2, rfl⟩
      · exact .inr (.inl ⟨h1, h2, rfl⟩)), hn⟩)⟩
/-- Lists of writings and of relations. -/
def SemL (bs : List Int) : List (List ST → List ST) → List Rel → Prop
  | [], [] => True
  | f :: fs, M :: Ms => SemF bs f M ∧ SemL bs fs Ms
  | _, _ => False
def compL : List Rel → Rel
  | [] => idR
  | M :: Ms => compR M (compL Ms)
theorem sem_cat (bs : List Int) : ∀ (fs : List (List ST → List ST)) (Ms : List Rel), SemL bs fs Ms → SemF bs (fun xs => fs.foldl (fun xs f => f xs) xs) (compL Ms)
  | [], [], _ => SemF.id
  | f :: fs, M :: Ms, h => SemF.seq h.1 (sem_cat bs fs Ms h.2)
  | [], _ :: _, h => h.elim
  | _ :: _, [], h => h.elim
def itR (M : Rel) : Nat → Rel
  | 0 => idR
  | n + 1 => compR M (itR M n)
theorem sem_iter {bs : List Int} {f : List ST → List ST} {M : Rel} (h : SemF bs f M) : ∀ n, SemF bs (iterC f n) (itR M n)
  | 0 => SemF.id
  | n + 1 => show SemF bs (fun xs => iterC f n (f xs)) (compR M (itR M n)) from SemF.seq h (sem_iter h n)
theorem splitA_eq (xs : List ST) : splitA xs = xs ++ [⟨3, C4.nil, (xs.length : Int) + 1, 0⟩] := by
  apply List.ext_getElem?
  intro k
  unfold splitA setA
  rw [List.getElem?_modify]
  rcases Nat.lt_trichotomy k xs.length with h | h | h
  · rw [List.getElem?_append_left h, List.getElem?_append_left h]
    have e : ¬ xs.length = k := by omega
    cases xs[k]? <;> simp [e]
  · subst h
    simp
  · rw [List.getElem?_eq_none (by simp; omega), List.getElem?_eq_none (by simp; omega)]
    rfl
end Go.Proofs.Ytclgnefeankbgaa.M
