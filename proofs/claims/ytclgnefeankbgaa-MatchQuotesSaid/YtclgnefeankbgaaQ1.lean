/- The text that matches just some bytes: how it is read, what it matches. No program in sight. Conditions: as each theorem says. -/
import Derived.Test.YtclgnefeankbgaaP4
import Derived.Test.YtclgnefeankbgaaQ0
namespace Go.Proofs.Ytclgnefeankbgaa.M
open Go Go.RowKit Go.Proofs.YtclgnefeankbgaaW.PrintWords
set_option linter.unusedVariables false
set_option linter.unusedSimpArgs false
def isSpec (b : Int) : Bool := b == 92 || b == 124 || b == 42 || b == 43 || b == 63 || b == 123 || b == 125 || b == 40 || b == 41 || b == 91 || b == 93 || b == 46 || b == 94 || b == 36
def hexD (d : Int) : Int := if d < 10 then 48 + d else 87 + d
def quote1 (b : Int) : List Int := if b < 32 ∨ 126 < b then [92, 120, hexD (b / 16), hexD (b % 16)] else if isSpec b = true then [92, b] else [b]
def quoteL (bs : List Int) : List Int := bs.flatMap quote1
def Byte (b : Int) : Prop := 0 ≤ b ∧ b ≤ 255
theorem Byte.fin {b : Int} (h : Byte b) : ∃ n : Fin 256, b = ((n.val : Nat) : Int) := ⟨⟨b.toNat, by have := h.1; have := h.2; omega⟩, by have := h.1; show b = ((b.toNat : Nat) : Int); omega⟩
theorem plain_all : ∀ n : Fin 256, (32 ≤ ((n.val : Nat) : Int) ∧ ((n.val : Nat) : Int) ≤ 126 ∧ isSpec ((n.val : Nat) : Int) = false) → stopI ((n.val : Nat) : Int) < 0 := by decide +kernel
theorem spec_all : ∀ n : Fin 256, isSpec ((n.val : Nat) : Int) = true → (severalP ((n.val : Nat) : Int)).isNone = true ∧ ¬ (((n.val : Nat) : Int) < 32 ∨ 126 < ((n.val : Nat) : Int) ∨ (48 ≤ ((n.val : Nat) : Int) ∧ ((n.val : Nat) : Int) ≤ 57) ∨ (97 ≤ low8 ((n.val : Nat) : Int) ∧ low8 ((n.val : Nat) : Int) ≤ 122)) := by decide +kernel
theorem hex_all : ∀ n : Fin 256, 0 ≤ digP (hexD (((n.val : Nat) : Int) / 16)) ∧ 0 ≤ digP (hexD (((n.val : Nat) : Int) % 16)) ∧ hexV (digP (hexD (((n.val : Nat) : Int) / 16))) (digP (hexD (((n.val : Nat) : Int) % 16))) = ((n.val : Nat) : Int) := by decide +kernel
theorem hasC_only {x y : Int} (hx : Byte x) (hy : Byte y) : hasC (onlyC x) y = true ↔ x = y := by
  obtain ⟨n, rfl⟩ := hx.fin
  obtain ⟨m, rfl⟩ := hy.fin
  rw [only_all, decide_eq_true_iff]
  constructor
  · intro h; rw [h]
  · intro h; exact Fin.ext (by omega)
/-- From a place on a text has these bytes, to its end. -/
structure Tail (s : ByteArray) (p : Nat) (l : List Int) : Prop where
  sz : s.size = p + l.length
  see : ∀ k, k < l.length → seeP s (p + k) = l.getD k 0
theorem Tail.head {s : ByteArray} {p : Nat} {x : Int} {l : List Int} (h : Tail s p (x :: l)) : seeP s p = x ∧ p < s.size := ⟨h.see 0 (by simp), by have := h.sz; simp at this; omega⟩
theorem Tail.tail {s : ByteArray} {p : Nat} {x : Int} {l : List Int} (h : Tail s p (x :: l)) : Tail s (p + 1) l := ⟨by have := h.sz; simp at this; omega, fun k hk => by
  have := h.see (k + 1) (by simpa using hk)
  rw [show p + 1 + k = p + (k + 1) by omega, this]
  rfl⟩
theorem Tail.fin {s : ByteArray} {p : Nat} (h : Tail s p []) : p = s.size := by have := h.sz; simp at this; omega
/-- What may follow a part. -/
def Next (l : List Int) : Prop := ∀ x r, l = x :: r → x ≠ 42 ∧ x ≠ 43 ∧ x ≠ 63 ∧ x ≠ 123 ∧ x ≠ 124 ∧ x ≠ 41
theorem takeQ {s : ByteArray} {p : Nat} {l : List Int} (h : Tail s p l) {b : Int} (hb : ∀ x r, l = x :: r → x ≠ b) : takeP s p b = false := by
  cases ht : takeP s p b with
  | false => rfl
  | true =>
    unfold takeP at ht
    obtain ⟨h1, h2⟩ := of_decide_eq_true ht
    cases l with
    | nil => have := h.fin; omega
    | cons x r =>
      have h3 := h.head.1
      unfold seeP at h3
      rw [if_pos h1] at h3
      exact absurd (h3.symm.trans h2) (hb x r rfl)
theorem takeQ_t {s : ByteArray} {p : Nat} {b : Int} {l : List Int} (h : Tail s p (b :: l)) : takeP s p b = true := by
  obtain ⟨h1, h2⟩ := h.head
  unfold seeP at h1
  rw [if_pos h2] at h1
  exact decide_eq_true ⟨h2, h1⟩
theorem quote_next {bs : List Int} (hb : ∀ x ∈ bs, Byte x) : Next (quoteL bs) := by
  intro x r h
  cases bs with
  | nil => cases h
  | cons b bs =>
    unfold quoteL at h
    rw [List.flatMap_cons] at h
    unfold quote1 at h
    by_cases c1 : b < 32 ∨ 126 < b
    · rw [if_pos c1] at h
      injection h with h1 _
      subst h1
      decide
    rw [if_neg c1] at h
    by_cases c2 : isSpec b = true
    · rw [if_pos c2] at h
      injection h with h1 _
      subst h1
      decide
    · rw [if_neg c2] at h
      injection h with h1 _
      subst h1
      unfold isSpec at c2
      simp at c2
      omega
theorem repL_next {s : ByteArray} {p n : Nat} {l : List Int} {t : Pt} (h : Tail s p l) (hn : Next l) (h0 : 0 < n) : repL s n p t = .ok t p := by
  obtain ⟨m, rfl⟩ : ∃ m, n = m + 1 := ⟨n - 1, by omega⟩
  rw [repL, takeQ h (b := 42) (fun x r e => (hn x r e).1), takeQ h (b := 43) (fun x r e => (hn x r e).2.1), takeQ h (b := 63) (fun x r e => (hn x r e).2.2.1), takeQ h (b := 123) (fun x r e => (hn x r e).2.2.2.1)]
  rw [if_neg (by decide), if_neg (by decide), if_neg (by decide), if_neg (by decide)]
/-- A quoted byte is read. -/
theorem read1 {alt : Nat → Rs Pt} {s : ByteArray} {p : Nat} {b : Int} {l : List Int} (hb : Byte b) (h : Tail s p (quote1 b ++ l)) (hn : Next l) : repR alt s false p = .ok (leafT 0 (onlyC b)) (p + (quote1 b).length) ∧ Tail s (p + (quote1 b).length) l := by
  obtain ⟨n, hbn⟩ := hb.fin
  have fin : ∀ q, Tail s q l → ∀ c, atomR alt s false p = .ok (leafT 0 c) q → repR alt s false p = .ok (leafT 0 c) q := fun q hq c ha => by
    unfold repR
    rw [ha]
    simp only
    exact repL_next hq hn (by have := hq.sz; omega)
  unfold quote1 at h ⊢
  by_cases c1 : b < 32 ∨ 126 < b
  · rw [if_pos c1] at h ⊢
    have h' : Tail s p (92 :: 120 :: hexD (b / 16) :: hexD (b % 16) :: l) := h
    have t1 := h'.tail
    have t2 := t1.tail
    have t3 := t2.tail
    have t4 := t3.tail
    refine ⟨fin _ t4 _ ?_, t4⟩
    have hx := hex_all n
    rw [← hbn] at hx
    have he : escR s p = .ok (onlyC b, b, true) (p + 1 + 1 + 1 + 1) := by
      unfold escR
      rw [t1.head.1]
      have e0 : severalP 120 = none := by decide
      rw [e0]
      simp only
      rw [takeQ t1 (b := 110) (fun x r e => by injection e with e _; rw [← e]; decide), takeQ t1 (b := 116) (fun x r e => by injection e with e _; rw [← e]; decide), takeQ_t t1]
      rw [if_neg (by decide), if_neg (by decide), if_pos rfl, t2.head.1, t3.head.1, if_neg (by omega), if_neg (by omega), hx.2.2]
    unfold atomR
    rw [h'.head.1, if_neg (by decide), if_neg (by decide), if_neg (by decide), if_neg (by decide), if_neg (by decide), if_neg (by decide), if_pos rfl, he]
    rfl
  rw [if_neg c1] at h ⊢
  by_cases c2 : isSpec b = true
  · rw [if_pos c2] at h ⊢
    have h' : Tail s p (92 :: b :: l) := h
    have t1 := h'.tail
    have t2 := t1.tail
    refine ⟨fin _ t2 _ ?_, t2⟩
    have hx := spec_all n
    rw [← hbn] at hx
    obtain ⟨x1, x2⟩ := hx c2
    have e0 : severalP b = none := Option.isNone_iff_eq_none.1 x1
    have hne : b ≠ 110 ∧ b ≠ 116 ∧ b ≠ 120 := by
      unfold isSpec at c2
      simp at c2
      omega
    have he : escR s p = .ok (onlyC b, b, true) (p + 1 + 1) := by
      unfold escR
      rw [t1.head.1, e0]
      simp only
      rw [takeQ t1 (b := 110) (fun x r e => by injection e with e _; rw [← e]; exact hne.1), takeQ t1 (b := 116) (fun x r e => by injection e with e _; rw [← e]; exact hne.2.1), takeQ t1 (b := 120) (fun x r e => by injection e with e _; rw [← e]; exact hne.2.2)]
      rw [if_neg (by decide), if_neg (by decide), if_neg (by decide), if_neg (show ¬ notEsc b from x2)]
    unfold atomR
    rw [h'.head.1, if_neg (by decide), if_neg (by decide), if_neg (by decide), if_neg (by decide), if_neg (by decide), if_neg (by decide), if_pos rfl, he]
    rfl
  · rw [if_neg c2] at h ⊢
    have h' : Tail s p (b :: l) := h
    have t1 := h'.tail
    refine ⟨fin _ t1 _ ?_, t1⟩
    have c3 : isSpec b = false := by simpa using c2
    have hx := plain_all n
    rw [← hbn] at hx
    have hs := hx ⟨by omega, by omega, c3⟩
    unfold isSpec at c2
    simp at c2
    unfold atomR
    rw [h'.head.1, if_neg (by omega), if_neg (by omega), if_neg (by omega), if_neg (by omega), if_neg (by omega), if_neg (by omega), if_neg (by omega)]
    rfl
/-- The parts of a quoted text. -/
def leavesT : List Int → Pt
  | [] => .nil
  | b :: bs => .cons 0 (onlyC b) 0 0 false .nil (leavesT bs)
theorem app_leaf : ∀ (f : Pt) (c : C4) (u : Pt), (f.app (leafT 0 c)).app u = f.app (.cons 0 c 0 0 false .nil u)
  | .nil, c, u => rfl
  | .cons k c' le mo nu kids rest, c, u => by
    show Pt.cons k c' le mo nu kids ((rest.app (leafT 0 c)).app u) = .cons k c' le mo nu kids (rest.app (.cons 0 c 0 0 false .nil u))
    rw [app_leaf rest c u]
theorem app_nil : ∀ f : Pt, f.app .nil = f
  | .nil => rfl
  | .cons k c le mo nu kids rest => by
    show Pt.cons k c le mo nu kids (rest.app .nil) = _
    rw [app_nil rest]
theorem quote1_pos (b : Int) : 0 < (quote1 b).length := by
  unfold quote1
  split
  · simp
  · split <;> simp
theorem catL_quote {alt : Nat → Rs Pt} {s : ByteArray} : ∀ (bs : List Int) (n p : Nat) (f : Pt), (∀ x ∈ bs, Byte x) → Tail s p (quoteL bs) → s.size + 1 ≤ p + n → catL (repR alt s false) s n p f = .ok (f.app (leavesT bs)) s.size
  | [], n, p, f, hb, h, hn => by
    have e := h.fin
    subst e
    obtain ⟨m, rfl⟩ : ∃ m, n = m + 1 := ⟨n - 1, by omega⟩
    rw [catL, if_neg (fun h => by omega)]
    show Rs.ok f s.size = .ok (f.app .nil) s.size
    rw [app_nil]
  | b :: bs, n, p, f, hb, h, hn => by
    obtain ⟨m, rfl⟩ : ∃ m, n = m + 1 := ⟨n - 1, by have := h.sz; omega⟩
    have hq : quoteL (b :: bs) = quote1 b ++ quoteL bs := by unfold quoteL; rw [List.flatMap_cons]
    have hnx := quote_next hb
    have hn2 := quote_next (fun x hx => hb x (List.mem_cons_of_mem _ hx))
    have hpos := quote1_pos b
    obtain ⟨x, r, hxr⟩ : ∃ x r, quoteL (b :: bs) = x :: r := by
      cases hc : quoteL (b :: bs) with
      | nil =>
        rw [hq] at hc
        have h9 : (quote1 b).length + (quoteL bs).length = 0 := by rw [← List.length_append, hc]; rfl
        omega
      | cons x r => exact ⟨x, r, rfl⟩
    have hne := hnx x r hxr
    have hh := h
    rw [hxr] at hh
    rw [hq] at h
    obtain ⟨h1, h2⟩ := read1 (alt := alt) (hb b List.mem_cons_self) h hn2
    rw [catL, if_pos ⟨hh.head.2, by rw [hh.head.1]; exact hne.2.2.2.2.1, by rw [hh.head.1]; exact hne.2.2.2.2.2⟩, h1]
    simp only
    rw [catL_quote bs m (p + (quote1 b).length) _ (fun x hx => hb x (List.mem_cons_of_mem _ hx)) h2 (by omega), app_leaf]
    rfl
theorem read_quote {s : ByteArray} {bs : List Int} (hb : ∀ x ∈ bs, Byte x) (h : Tail s 0 (quoteL bs)) : readR s false = .ok (catT (leavesT bs)) s.size := by
  have hcat : catR (repR (altR s false s.size) s false) s 0 = .ok (catT (leavesT bs)) s.size := by
    unfold catR
    rw [catL_quote bs _ 0 .nil hb h (by omega)]
    rfl
  have hal : altR s false (s.size + 1) 0 = .ok (catT (leavesT bs)) s.size := by
    rw [altR]
    unfold altB
    rw [hcat]
    simp only
    obtain ⟨m, hm⟩ : ∃ m, s.size + 1 - s.size = m + 1 := ⟨0, by omega⟩
    have ht : takeP s s.size 124 = false := decide_eq_false (fun h => by omega)
    rw [hm, altL, if_neg (by rw [ht]; decide)]
    rfl
  unfold readR
  rw [hal]
  simp only
  rw [if_neg (by omega)]
theorem sumP_leaves : ∀ (bs : List Int) (n : Int), n ≤ sumP (leavesT bs) n → sumP (leavesT bs) n ≤ n + bs.length
  | [], n, _ => by show n ≤ n + _; simp
  | b :: bs, n, h => by
    have key : ∀ (bs : List Int) (n : Int), sumP (leavesT bs) n ≤ n + bs.length ∨ n > 600 := fun bs => by
      induction bs with
      | nil => intro n; left; show n ≤ n + _; simp
      | cons b bs ih =>
        intro n
        show sumP (leavesT bs) (min (n + 1) 600) ≤ n + ((bs.length + 1 : Nat) : Int) ∨ n > 600
        have := ih (min (n + 1) 600)
        omega
    have := key (b :: bs) n
    rcases this with h1 | h1
    · exact h1
    · have : sumP (leavesT (b :: bs)) n = sumP (leavesT bs) (min (n + 1) 600) := rfl
      have k2 := key bs (min (n + 1) 600)
      rw [this]
      show _ ≤ n + ((bs.length + 1 : Nat) : Int)
      omega
theorem len_quote : ∀ bs : List Int, bs.length ≤ (quoteL bs).length
  | [] => Nat.le_refl _
  | b :: bs => by
    have := len_quote bs
    have h1 := quote1_pos b
    unfold quoteL at this ⊢
    rw [List.flatMap_cons, List.length_append, List.length_cons]
    omega
theorem byte_quote {bs : List Int} (hb : ∀ x ∈ bs, Byte x) : ∀ x ∈ quoteL bs, Byte x := by
  intro x hx
  unfold quoteL at hx
  obtain ⟨b, h1, h2⟩ := List.mem_flatMap.1 hx
  have h3 := hb b h1
  obtain ⟨h4, h5⟩ := h3
  unfold quote1 hexD at h2
  split at h2
  · simp only [List.mem_cons, List.not_mem_nil, or_false] at h2
    unfold Byte
    rcases h2 with rfl | rfl | rfl | rfl
    · omega
    · omega
    · split <;> omega
    · split <;> omega
  · split at h2
    · simp only [List.mem_cons, List.not_mem_nil, or_false] at h2
      unfold Byte
      rcases h2 with rfl | rfl <;> omega
    · simp only [List.mem_cons, List.not_mem_nil, or_false] at h2
      rw [h2]
      exact ⟨h4, h5⟩
theorem see_str {l : List Int} (hl : ∀ x ∈ l, Byte x) : Tail (strOfNums l) 0 l := by
  refine ⟨by rw [strOfNums_size]; omega, fun k hk => ?_⟩
  unfold seeP
  rw [Nat.zero_add, if_pos (by rw [strOfNums_size]; exact hk), bt_at (by rw [strOfNums_size]; exact hk)]
  have hm := hl (l.getD k 0) (by rw [List.getD_eq_getElem?_getD, List.getElem?_eq_getElem hk]; exact List.getElem_mem _)
  obtain ⟨h1, h2⟩ := hm
  have e : ((strOfNums l)[k]'(by rw [strOfNums_size]; exact hk)) = UInt8.ofNat (l.getD k 0).toNat := by
    show (strOfNums l).data[k]'_ = _
    unfold strOfNums
    simp [List.getD_eq_getElem?_getD, List.getElem?_eq_getElem hk]
  rw [e, UInt8.toNat_ofNat']
  omega
theorem rels_leaves (cs : List Int) : ∀ bs : List Int, rels cs (leavesT bs) = bs.map fun b => byteR cs (onlyC b)
  | [] => rfl
  | b :: bs => by
    show rel1 cs 0 (onlyC b) 0 0 [] :: rels cs (leavesT bs) = byteR cs (onlyC b) :: bs.map _
    rw [rels_leaves cs bs]
    rfl
/-- The quoted text is a pattern; it matches just these bytes. -/
theorem parse_quote {bs : List Int} (hb : ∀ x ∈ bs, Byte x) (hl : (quoteL bs).length ≤ 200) : ∃ z xs, parseR (strOfNums (quoteL bs)) false = .ok z xs ∧ ∀ cs : List Int, (∀ x ∈ cs, Byte x) → ((cs.length : Int) ∈ endsP xs cs 0 ↔ bs = cs) := by
  have hr := read_quote hb (see_str (byte_quote hb))
  have hlq := len_quote bs
  have hz : (sizes (catT (leavesT bs))).headD 0 = sumP (leavesT bs) 0 := rfl
  have hsum : sumP (leavesT bs) 0 ≤ 300 := by
    rcases Int.lt_or_le (sumP (leavesT bs) 0) 0 with h | h
    · omega
    · have := sumP_leaves bs 0 h
      omega
  have hp : parseR (strOfNums (quoteL bs)) false = .ok ((sizes (catT (leavesT bs))).headD 0) ((codes (catT (leavesT bs))).headD id [] ++ [⟨5, C4.nil, 0, 0⟩]) := by
    unfold parseR
    rw [if_neg (by rw [strOfNums_size]; omega), hr]
    simp only
    rw [if_neg (by rw [hz]; omega)]
  refine ⟨_, _, hp, fun cs hc => ?_⟩
  obtain ⟨t, q, h1, _, _, h2⟩ := parse_ends hp
  rw [hr] at h1
  cases h1
  have he := h2 cs 0 (Nat.zero_le _)
  rw [he.mem]
  have hrel : relT cs (catT (leavesT bs)) = compL (bs.map fun b => byteR cs (onlyC b)) := by
    show compL (rels cs (leavesT bs)) = _
    rw [rels_leaves]
  have key : ∀ (bs : List Int), (∀ x ∈ bs, Byte x) → ∀ i j, compL (bs.map fun b => byteR cs (onlyC b)) i j ↔ j = i + bs.length ∧ (cs.drop i).take bs.length = bs := by
    intro bs
    induction bs with
    | nil =>
      intro _ i j
      constructor
      · intro h; have h' : i = j := h; exact ⟨by simp [h'], by simp⟩
      · rintro ⟨h, _⟩; show i = j; simpa using h.symm
    | cons b bs ih =>
      intro hb i j
      have ih' := ih (fun x hx => hb x (List.mem_cons_of_mem _ hx))
      constructor
      · rintro ⟨k, ⟨h1, h2, rfl⟩, h3⟩
        obtain ⟨e1, e2⟩ := (ih' _ _).1 h3
        have hby := hc (cs.getD i 0) (by rw [List.getD_eq_getElem?_getD, List.getElem?_eq_getElem h1]; exact List.getElem_mem _)
        have e3 := (hasC_only (hb b List.mem_cons_self) hby).1 h2
        refine ⟨by rw [e1, List.length_cons]; omega, ?_⟩
        rw [List.drop_eq_getElem_cons h1, List.length_cons, List.take_succ_cons, e2]
        congr 1
        rw [e3, List.getD_eq_getElem?_getD, List.getElem?_eq_getElem h1]
        rfl
      · rintro ⟨h1, h2⟩
        have hi : i < cs.length := by
          rcases Nat.lt_or_ge i cs.length with h | h
          · exact h
          · rw [List.drop_of_length_le h] at h2; cases h2
        rw [List.drop_eq_getElem_cons hi, List.length_cons, List.take_succ_cons] at h2
        injection h2 with e1 e2
        have e3 : cs.getD i 0 = b := by rw [List.getD_eq_getElem?_getD, List.getElem?_eq_getElem hi]; exact e1
        refine ⟨i + 1, ⟨hi, ?_, rfl⟩, (ih' _ _).2 ⟨by rw [h1, List.length_cons]; omega, e2⟩⟩
        rw [e3]
        exact (hasC_only (hb b List.mem_cons_self) (hb b List.mem_cons_self)).2 rfl
  constructor
  · rintro ⟨j, ej, _, hj⟩
    rw [hrel, key bs hb] at hj
    obtain ⟨e1, e2⟩ := hj
    rw [List.drop_zero] at e2
    have e3 : bs.length = cs.length := by omega
    rw [e3, List.take_length] at e2
    exact e2.symm
  · intro e
    refine ⟨cs.length, rfl, Nat.le_refl _, ?_⟩
    rw [hrel, key bs hb, e]
    exact ⟨by omega, by rw [List.drop_zero, List.take_length]⟩
end Go.Proofs.Ytclgnefeankbgaa.M
