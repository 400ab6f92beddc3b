/- The words for the walk of the program's Log: the cells between two rounds. Conditions: as each lemma says. -/
import Derived.Test.YtbdakgkjomanlaaDoorF5
import Derived.Maps.OwnIn
import Derived.Test.YtbdakgkjomanlaaDoorDx0
import Derived.Test.YtbdakgkjomanlaaDoorDx3
namespace Go.Proofs.YtbdakgkjomanlaaDoor.Pure
open Go.RowKit Go.Shelf Go.Proofs.YtbdakgkjomanlaaDoor.D Go.Proofs.YtbdakgkjomanlaaDoor.Hand Go.Proofs.YtbdakgkjomanlaaDoorW.PrintWords Go.Proofs.YtbdakgkjomanlaaDoorW.PrintLast Go.Proofs.YtbdakgkjomanlaaDoorW.PrintMore
set_option linter.unusedVariables false
/-- The secrets of the lines so far, if all are right. -/
def lstF : List S33 → List ByteArray → Option (List S33)
  | L, [] => some L
  | L, l :: r => (logStep L (trimL l)).bind fun L2 => lstF L2 r
theorem lstF_app : ∀ (a b : List ByteArray) (L : List S33), lstF L (a ++ b) = (lstF L a).bind fun L2 => lstF L2 b
  | [], b, L => rfl
  | l :: a, b, L => by
    show (logStep L (trimL l)).bind _ = ((logStep L (trimL l)).bind _).bind _
    cases logStep L (trimL l) with
    | none => rfl
    | some o2 => exact lstF_app a b o2
theorem lstF_snoc {a : List ByteArray} {l : ByteArray} {L L2 : List S33} (h : lstF L a = some L2) : lstF L (a ++ [l]) = logStep L2 (trimL l) := by
  rw [lstF_app, h]
  show (logStep L2 (trimL l)).bind _ = _
  cases logStep L2 (trimL l) <;> rfl
theorem lstF_len : ∀ (a : List ByteArray) (L L2 : List S33), lstF L a = some L2 → L2.length ≤ L.length + a.length
  | [], L, L2, h => by cases h; exact Nat.le_refl _
  | l :: a, L, L2, h => by
    obtain ⟨M, h1, h2⟩ := Option.bind_eq_some_iff.1 h
    have := lstF_len a M L2 h2
    have := logStep_len h1
    rw [List.length_cons]
    omega
theorem logF_app : ∀ (a b : List ByteArray) (L L2 : List S33) (n : Nat), lstF L a = some L2 → logF L n (a ++ b) = logF L2 (n + a.length) b
  | [], b, L, L2, n, h => by cases h; rfl
  | l :: a, b, L, L2, n, h => by
    obtain ⟨M, h1, h2⟩ := Option.bind_eq_some_iff.1 h
    rw [List.cons_append, logF, h1]
    show logF M (n + 1) (a ++ b) = _
    rw [logF_app a b M L2 (n + 1) h2, List.length_cons]
    congr 1
    omega
theorem logF_done {a : List ByteArray} {L : List S33} (h : lstF [] a = some L) : logF [] 0 a = if L.length > 60 then ([], 0, 3) else (L, (a.length : Int), 0) := by
  have := logF_app a [] [] L 0 h
  rw [List.append_nil, Nat.zero_add] at this
  rw [this, logF]
theorem logF_stop {a b : List ByteArray} {l : ByteArray} {L : List S33} (h : lstF [] a = some L) (h2 : logStep L (trimL l) = none) : logF [] 0 ((a ++ [l]) ++ b) = ([], ((a ++ [l]).length : Int), 2) := by
  rw [List.append_assoc, logF_app a _ [] L 0 h, List.singleton_append, logF, h2, List.length_append, List.length_singleton, Nat.zero_add]
theorem k33_types : ∀ t, t = 23 ∨ t = 3 ∨ t = 24 ∨ t = 9 → ∀ q, q ∈ 33 :: k33.E → q ≠ t := by
  intro t ht q hq
  have : q = 33 ∨ q = 5 := by
    rcases List.mem_cons.1 hq with h | h
    · exact .inl h
    · right
      have hE : k33.E = [5] := rfl
      rw [hE] at h
      exact List.mem_singleton.1 h
  rcases this with rfl | rfl <;> rcases ht with rfl | rfl | rfl | rfl <;> decide
/-- The cells of the program's Log. -/
structure LB (w : World) (N : Nat) (c e n : Int) (L : List S33) (W : World) : Prop where
  b0 : Boxed W N 23 (.slice none 0 0)
  b1 : Boxed W (N + 1) 3 (.int .i64 c)
  b2 : Boxed W (N + 2) 24 (.int .i64 e)
  b3 : ∃ A cp, Boxed W (N + 3) 23 (.slice A L.length cp) ∧ Kd.R k33 33 W N (fun _ => True) (.slice A L.length cp) L
  b4 : Boxed W (N + 4) 3 (.int .i64 n)
  below : Below N w W
  le : w.heap.size = N
section
variable {w A B : World} {N : Nat} {c e n : Int} {L : List S33}
theorem LB.leW (h : LB w N c e n L A) : N ≤ A.heap.size := h.le ▸ h.below.size
theorem LB.kept {row : Option Nat} (h : LB w N c e n L A) (hg : A.grownBy B row) (hr : ∀ r, row = some r → N ≤ r ∧ ∃ ob : Obj, A.heap[r]? = some ob ∧ ob.isCells = false) : LB w N c e n L B := by
  have far : ∀ {b : Nat} {t : TypeId} {v : Value}, Boxed A b t v → some b ≠ row := fun {b t v} hb e' => by
    obtain ⟨_, ob, ho, hc⟩ := hr b e'.symm
    rw [show A.heap[b]? = _ from hb] at ho
    cases ho
    cases hc
  obtain ⟨b0, b1, b2, ⟨p, cp, hv, hrow⟩, b4, hbl, hle⟩ := h
  refine ⟨b0.kept hg (far b0), b1.kept hg (far b1), b2.kept hg (far b2), ⟨p, cp, hv.kept hg (far hv), ?_⟩, b4.kept hg (far b4), hbl.grown hg (hle ▸ hbl.size) (fun k e => (hr k e).1), hle⟩
  refine Kd.R_mono (Kd.R_grown (Kd.R_bound hrow) hg (fun k hk e' => ?_)) (fun _ _ => trivial)
  obtain ⟨_, _, _, q, _, cells, hcl⟩ := hk
  obtain ⟨_, ob, ho, hc⟩ := hr k e'.symm
  rw [hcl] at ho
  cases ho
  cases hc
theorem LB.move (h : LB w N c e n L A) (hb : Below A.heap.size A B) : LB w N c e n L B := by
  obtain ⟨b0, b1, b2, ⟨p, cp, hv, hrow⟩, b4, hbl, hle⟩ := h
  have far : ∀ {b : Nat} {t : TypeId} {v : Value}, Boxed A b t v → Boxed B b t v := fun h => (hb.block _ h.lt).trans h
  exact ⟨far b0, far b1, far b2, ⟨p, cp, far hv, Kd.R_below hrow hb⟩, far b4, hbl.trans (hb.mono (hle ▸ hbl.size)), hle⟩
theorem LB.other {b : Nat} {u u' : Value} (h : LB w N c e n L A) (hb : N + 5 ≤ b) (hu : Boxed A b 9 u) : LB w N c e n L (A.setCell ⟨b, 0, none⟩ u') := by
  obtain ⟨b0, b1, b2, ⟨p, cp, hv, hrow⟩, b4, hbl, hle⟩ := h
  exact ⟨b0.other (by omega) u', b1.other (by omega) u', b2.other (by omega) u', ⟨p, cp, hv.other (by omega) u', Kd.R_set hrow hu (k33_types _ (by simp)) 0 u'⟩, b4.other (by omega) u', hbl.setCell (p := ⟨b, 0, none⟩) (by show N ≤ b; omega) _, hle⟩
theorem LB.step (h : LB w N c e n L A) (hs : LinSt (N + 5) 9 A B) : LB w N c e n L B := by
  rcases hs with ⟨u, v, hu, rfl⟩ | rfl
  · exact h.other (Nat.le_refl _) hu
  · exact h.move (Below.drew (Below.refl _ _))
/-- The count is written. -/
theorem LB.count (h : LB w N c e n L A) (m : Int) : LB w N c e m L (A.setCell ⟨N + 4, 0, none⟩ (.int .i64 m)) := by
  obtain ⟨b0, b1, b2, ⟨p, cp, hv, hrow⟩, b4, hbl, hle⟩ := h
  exact ⟨b0.other (by omega) _, b1.other (by omega) _, b2.other (by omega) _, ⟨p, cp, hv.other (by omega) _, Kd.R_set hrow b4 (k33_types _ (by simp)) 0 _⟩, b4.set _, hbl.setCell (p := ⟨N + 4, 0, none⟩) (by show N ≤ N + 4; omega) _, hle⟩
/-- No secrets: the answers are written. -/
theorem LB.bad (h : LB w N c e n L A) (c2 e2 : Int) : LB w N c2 e2 n L (((A.setCell ⟨N, 0, none⟩ (.slice none 0 0)).setCell ⟨N + 1, 0, none⟩ (.int .i64 c2)).setCell ⟨N + 2, 0, none⟩ (.int .i64 e2)) := by
  obtain ⟨b0, b1, b2, ⟨p, cp, hv, hrow⟩, b4, hbl, hle⟩ := h
  refine ⟨((b0.set _).other (by omega) _).other (by omega) _, ((b1.other (by omega) _).set _).other (by omega) _, ((b2.other (by omega) _).other (by omega) _).set _, ⟨p, cp, ((hv.other (by omega) _).other (by omega) _).other (by omega) _, ?_⟩, ((b4.other (by omega) _).other (by omega) _).other (by omega) _, ((hbl.setCell (p := ⟨N, 0, none⟩) (Nat.le_refl _) _).setCell (p := ⟨N + 1, 0, none⟩) (by show N ≤ N + 1; omega) _).setCell (p := ⟨N + 2, 0, none⟩) (by show N ≤ N + 2; omega) _, hle⟩
  have r0 := Kd.R_set hrow b0 (k33_types _ (by simp)) 0 (.slice none 0 0)
  have r1 := Kd.R_set r0 (b1.other (B' := N) (by omega) (.slice none 0 0)) (k33_types _ (by simp)) 0 (.int .i64 c2)
  exact Kd.R_set r1 ((b2.other (B' := N) (by omega) (.slice none 0 0)).other (B' := N + 1) (by omega) (.int .i64 c2)) (k33_types _ (by simp)) 0 (.int .i64 e2)
/-- All is well: the answers are written. -/
theorem LB.good {v : Value} (h : LB w N c e n L A) (hR : Kd.R k33 33 A N (fun _ => True) v L) (c2 e2 : Int) :
    Boxed (((A.setCell ⟨N, 0, none⟩ v).setCell ⟨N + 1, 0, none⟩ (.int .i64 c2)).setCell ⟨N + 2, 0, none⟩ (.int .i64 e2)) N 23 v
    ∧ Boxed (((A.setCell ⟨N, 0, none⟩ v).setCell ⟨N + 1, 0, none⟩ (.int .i64 c2)).setCell ⟨N + 2, 0, none⟩ (.int .i64 e2)) (N + 1) 3 (.int .i64 c2)
    ∧ Boxed (((A.setCell ⟨N, 0, none⟩ v).setCell ⟨N + 1, 0, none⟩ (.int .i64 c2)).setCell ⟨N + 2, 0, none⟩ (.int .i64 e2)) (N + 2) 24 (.int .i64 e2)
    ∧ Kd.R k33 33 (((A.setCell ⟨N, 0, none⟩ v).setCell ⟨N + 1, 0, none⟩ (.int .i64 c2)).setCell ⟨N + 2, 0, none⟩ (.int .i64 e2)) N (fun _ => True) v L
    ∧ Below N w (((A.setCell ⟨N, 0, none⟩ v).setCell ⟨N + 1, 0, none⟩ (.int .i64 c2)).setCell ⟨N + 2, 0, none⟩ (.int .i64 e2)) := by
  obtain ⟨b0, b1, b2, _, _, hbl, hle⟩ := h
  refine ⟨((b0.set _).other (by omega) _).other (by omega) _, ((b1.other (by omega) _).set _).other (by omega) _, ((b2.other (by omega) _).other (by omega) _).set _, ?_, ((hbl.setCell (p := ⟨N, 0, none⟩) (Nat.le_refl _) _).setCell (p := ⟨N + 1, 0, none⟩) (by show N ≤ N + 1; omega) _).setCell (p := ⟨N + 2, 0, none⟩) (by show N ≤ N + 2; omega) _⟩
  have r0 := Kd.R_set hR b0 (k33_types _ (by simp)) 0 v
  have r1 := Kd.R_set r0 (b1.other (B' := N) (by omega) v) (k33_types _ (by simp)) 0 (.int .i64 c2)
  exact Kd.R_set r1 ((b2.other (B' := N) (by omega) v).other (B' := N + 1) (by omega) (.int .i64 c2)) (k33_types _ (by simp)) 0 (.int .i64 e2)
end
/-- What a round keeps: what is no cells, and the iterator's variable. -/
def LK (N : Nat) (A B : World) : Prop := KeepsOthers A B ∧ LinKp (N + 5) 9 A B
theorem LK.below {N : Nat} {A B : World} (hb : Below A.heap.size A B) : LK N A B :=
  ⟨⟨hb.size, fun k o h _ => (hb.block k (Array.getElem?_eq_some_iff.1 h).1).trans h⟩, fun u hu => (hb.block _ hu.lt).trans hu⟩
theorem LK.trans {N : Nat} {A B C : World} (h : LK N A B) (k : LK N B C) : LK N A C := ⟨h.1.trans k.1, fun u hu => k.2 u (h.2 u hu)⟩
theorem LK.refl (N : Nat) (A : World) : LK N A A := LK.below (Below.refl _ _)
theorem LK.set {N b : Nat} {A : World} (hb : b < N + 5) (u : Value) : LK N A (A.setCell ⟨b, 0, none⟩ u) := ⟨KeepsOthers.setCell _ _ _, fun v hv => hv.other (by omega) u⟩
theorem LK.bad {N : Nat} {A : World} (u v x : Value) : LK N A (((A.setCell ⟨N, 0, none⟩ u).setCell ⟨N + 1, 0, none⟩ v).setCell ⟨N + 2, 0, none⟩ x) := ((LK.set (by omega) _).trans (LK.set (by omega) _)).trans (LK.set (by omega) _)
/-- A secret joined: A is the world with the secret's box. -/
theorem LB.joined {w A B : World} {N : Nat} {c e n : Int} {L : List S33} {v' : Value} {inner cs : List Value} {y : S33} {okp : Nat → Prop} {Ap : Option Addr} {cp : Nat} (h : LB w N c e n L A) (hv : Boxed A (N + 3) 23 (.slice Ap L.length cp))
    (hR : Kd.R k33 33 A N (fun _ => True) (.slice Ap L.length cp) L) (hi : A.ownsRow N 33 2 (.slice Ap L.length cp) L.length inner) (hr : Reps (k33.M A N (fun k => True ∧ some k ≠ (Value.slice Ap L.length cp).ownBlock)) k33.sz L inner)
    (hp : k33.M A N okp y cs) (hokp : ∀ k, okp k → some k ≠ (Value.slice Ap L.length cp).ownBlock)
    (hown : B.ownsRow N 33 2 v' (L.length + 1) (inner ++ cs)) (hg : A.grownBy B (Value.slice Ap L.length cp).ownBlock) (hat : v'.ownBlock = (Value.slice Ap L.length cp).ownBlock ∨ v'.ownBlock = some A.heap.size) :
    Boxed B (N + 3) 23 (.slice Ap L.length cp) ∧ LB w N c e n (L ++ [y]) (B.setCell ⟨N + 3, 0, none⟩ v') ∧ LK N A (B.setCell ⟨N + 3, 0, none⟩ v') := by
  have hRB : Kd.R k33 33 B N (fun _ => True) v' (L ++ [y]) := Kd.R_appended (fun _ _ => trivial) hr hp (fun k hk => ⟨trivial, hokp k hk⟩) (fun _ _ => trivial) hown hg (hat.imp id (fun e => ⟨_, e, Nat.le_refl _⟩))
  have ne : ∀ {b : Nat} {t : TypeId} {u : Value}, Boxed A b t u → t ≠ 33 → Boxed B b t u := fun hb ht => hb.kept hg (hb.not_row ht hi)
  have f3 := ne hv (by decide)
  have f0 := ne h.b0 (by decide)
  have f1 := ne h.b1 (by decide)
  have f2 := ne h.b2 (by decide)
  have f4 := ne h.b4 (by decide)
  obtain ⟨A2, c2, rfl⟩ := Kd.R_slice hRB
  refine ⟨f3, ⟨f0.other (by omega) _, f1.other (by omega) _, f2.other (by omega) _, ⟨A2, c2, f3.set _, Kd.R_set hRB f3 (k33_types _ (by simp)) 0 _⟩, f4.other (by omega) _, ?_, h.le⟩, ?_, ?_⟩
  · exact (h.below.grown hg h.leW (fun k hk => (hi.lt k hk).1)).setCell (p := ⟨N + 3, 0, none⟩) (by show N ≤ N + 3; omega) _
  · refine (KeepsOthers.of_grownBy hg fun j ob ej hj => ?_).trans (KeepsOthers.setCell _ _ _)
    rcases hi.2 with ⟨e', _⟩ | ⟨g, cap, cur, e', _, hgb, _⟩
    · rw [e'] at ej
      simp [Value.ownBlock] at ej
    · rw [e'] at ej
      obtain rfl : g = j := by simpa [Value.ownBlock] using ej
      rw [hgb] at hj; cases hj; rfl
  · exact fun u hu => (ne hu (by decide)).other (by omega) _
end Go.Proofs.YtbdakgkjomanlaaDoor.Pure
namespace Go.Proofs.YtbdakgkjomanlaaDoor.Pure
open Go.RowKit Go.Shelf Go.Proofs.YtbdakgkjomanlaaDoor.D Go.Proofs.YtbdakgkjomanlaaDoor.Hand Go.Proofs.YtbdakgkjomanlaaDoorW.PrintWords Go.Proofs.YtbdakgkjomanlaaDoorW.PrintLast Go.Proofs.YtbdakgkjomanlaaDoorW.PrintMore
attribute [local go_sem] Oper.semAt_some
set_option linter.unusedVariables false
theorem trimL_size (y : ByteArray) (h : y.size ≤ 1000000) : (trimL y).size ≤ 1000000 := by
  unfold trimL
  split
  · rw [ByteArray.size_extract]; omega
  · exact h
def LogPost (s : ByteArray) (w : World) (e : Ending) (w' : World) : Prop := ∃ v L n er, e = .returned (.tuple #[v, .int .i64 n, .int .i64 er]) ∧ Kd.R k33 33 w' w.heap.size (fun _ => True) v L ∧ Below w.heap.size w w' ∧ LogS s (L, n, er)
theorem secN.calls (row : ByteArray) (hs : row.size ≤ 1000000) (W : World) (hT : Tabs W) (b : Bool) (hb : (secOf row).2.2 = b) : Calls Tryd.prog 18 #[.string row] W fun e w' => ∃ lab A n c key, e = .returned (.tuple #[.agg #[.string lab, .slice A n c], .bool b]) ∧ n = key.length ∧ (b = true → lab = (secOf row).1 ∧ key = (secOf row).2.1) ∧ Kd.R (Kd.int .u8) 5 w' W.heap.size (fun _ => True) (.slice A n c) key ∧ Below W.heap.size W w' := by
  subst hb
  refine (bsec.calls row hs W hT).mono ?_
  rintro e w' ⟨lab, A, key, c, rfl, h1, h2, h3⟩
  exact ⟨lab, A, _, c, key, rfl, rfl, h1, h2, h3⟩
theorem LB.tabs {w A : World} {N : Nat} {c e n : Int} {L : List S33} (h : LB w N c e n L A) (hT : Tabs w) : Tabs A := hT.below (by have := h.below; rw [← h.le] at this; exact this)
theorem row_slice {A : World} {base : Nat} {e : TypeId} {size : Nat} {v : Value} {n : Nat} {xs : List Value} (h : A.ownsRow base e size v n xs) : ∃ av cv, v = .slice av n cv := by
  rcases h.2 with ⟨rfl, hz⟩ | ⟨g, cap, cur, rfl, _⟩
  · exact ⟨none, 0, by rw [hz]⟩
  · exact ⟨_, _, rfl⟩
/-- What the walk needs where a secret is joined. -/
theorem LB.pre {w W2 W3 : World} {N : Nat} {m : Int} {L : List S33} {lab : ByteArray} {A3 : Option Addr} {n3 c3 : Nat} {key : List Int} (h : LB w N 0 0 m L W2) (hb : Below W2.heap.size W2 W3) (hn : n3 = key.length) (hR : Kd.R (Kd.int .u8) 5 W3 W2.heap.size (fun _ => True) (.slice A3 n3 c3) key) :
    ∃ Ap cp inner, (W3.alloc (.cells #[.string lab, .slice A3 n3 c3] 33)).cell? ⟨N + 3, 0, none⟩ = some (.slice Ap L.length cp)
      ∧ ((W3.alloc (.cells #[.string lab, .slice A3 n3 c3] 33)).alloc (.cells #[.string lab, .slice A3 n3 c3] 33)).ownsRow N 33 2 (.slice Ap L.length cp) L.length inner
      ∧ (∀ j u, [Value.string lab, .slice A3 n3 c3][j]? = some u → ((W3.alloc (.cells #[.string lab, .slice A3 n3 c3] 33)).alloc (.cells #[.string lab, .slice A3 n3 c3] 33)).cell? ((⟨W3.heap.size + 1, 0, none⟩ : Addr).add j) = some u)
      ∧ N ≤ ((W3.alloc (.cells #[.string lab, .slice A3 n3 c3] 33)).alloc (.cells #[.string lab, .slice A3 n3 c3] 33)).heap.size
      ∧ ∀ v' w', w'.ownsRow N 33 2 v' (L.length + 1) (inner ++ [.string lab, .slice A3 n3 c3]) → ((W3.alloc (.cells #[.string lab, .slice A3 n3 c3] 33)).alloc (.cells #[.string lab, .slice A3 n3 c3] 33)).grownBy w' (Value.slice Ap L.length cp).ownBlock → (v'.ownBlock = (Value.slice Ap L.length cp).ownBlock ∨ v'.ownBlock = some ((W3.alloc (.cells #[.string lab, .slice A3 n3 c3] 33)).alloc (.cells #[.string lab, .slice A3 n3 c3] 33)).heap.size) →
        Boxed w' (N + 3) 23 (.slice Ap L.length cp) ∧ LB w N 0 0 m (L ++ [⟨lab, key⟩]) (w'.setCell ⟨N + 3, 0, none⟩ v') ∧ LK N W2 (w'.setCell ⟨N + 3, 0, none⟩ v') := by
  obtain ⟨Ap, cp, hv2, hr2⟩ := h.b3
  have hbl4 : Below W3.heap.size W3 (W3.alloc (.cells #[.string lab, .slice A3 n3 c3] 33)) := (Below.refl _ W3).alloc (Nat.le_refl _) _
  have hbl5 : Below W3.heap.size W3 ((W3.alloc (.cells #[.string lab, .slice A3 n3 c3] 33)).alloc (.cells #[.string lab, .slice A3 n3 c3] 33)) := hbl4.alloc (by simp) _
  have hb4 : Below W2.heap.size W2 (W3.alloc (.cells #[.string lab, .slice A3 n3 c3] 33)) := hb.trans (hbl4.mono hb.size)
  have hb5 : Below W2.heap.size W2 ((W3.alloc (.cells #[.string lab, .slice A3 n3 c3] 33)).alloc (.cells #[.string lab, .slice A3 n3 c3] 33)) := hb.trans (hbl5.mono hb.size)
  have h5 := h.move hb5
  have hv4 : Boxed (W3.alloc (.cells #[.string lab, .slice A3 n3 c3] 33)) (N + 3) 23 (.slice Ap L.length cp) := (hb4.block _ hv2.lt).trans hv2
  have hv5 : Boxed ((W3.alloc (.cells #[.string lab, .slice A3 n3 c3] 33)).alloc (.cells #[.string lab, .slice A3 n3 c3] 33)) (N + 3) 23 (.slice Ap L.length cp) := (hb5.block _ hv2.lt).trans hv2
  have hr5 := Kd.R_below hr2 hb5
  have hlt := Kd.R_lt hr2
  obtain ⟨h0, inner, hi, hr⟩ := hr5
  have hM : k33.M ((W3.alloc (.cells #[.string lab, .slice A3 n3 c3] 33)).alloc (.cells #[.string lab, .slice A3 n3 c3] 33)) N (fun k => W2.heap.size ≤ k) ⟨lab, key⟩ [.string lab, .slice A3 n3 c3] :=
    k33_mkM _ _ _ ⟨lab, key⟩ (Kd.R_below (Kd.R_lower (Kd.R_mono (Kd.R_bound hR) (fun k hk => hk.2.1)) h.leW) hbl5)
  refine ⟨Ap, cp, inner, hv4.cell, hi, ?_, h5.leW, fun v' w' h6 h7 h8 => ?_⟩
  · have hnew : ((W3.alloc (.cells #[.string lab, .slice A3 n3 c3] 33)).alloc (.cells #[.string lab, .slice A3 n3 c3] 33)).heap[W3.heap.size + 1]? = some (.cells #[.string lab, .slice A3 n3 c3] 33) := by
      have := World.alloc_heap_new (W3.alloc (.cells #[.string lab, .slice A3 n3 c3] 33)) (.cells #[.string lab, .slice A3 n3 c3] 33)
      rwa [World.size_alloc] at this
    intro j u hu
    have e : (⟨W3.heap.size + 1, 0, none⟩ : Addr).add j = ⟨W3.heap.size + 1, j, none⟩ := by unfold Addr.add; split <;> simp_all
    rw [e, Lib.cell_of_heap hnew]
    match j, hu with
    | 0, hu => exact hu
    | 1, hu => exact hu
  · obtain ⟨k1, k2, k3⟩ := LB.joined h5 hv5 ⟨h0, inner, hi, hr⟩ hi hr hM (fun k hk e => by have := hlt k e.symm; omega) h6 h7 h8
    exact ⟨k1, k2, (LK.below (N := N) hb5).trans k3⟩
theorem secOne (lab : ByteArray) (A : Option Addr) (n c : Nat) : ∀ u ∈ [Value.string lab, .slice A n c], u.oneCell' = true := by
  intro u hu
  rcases List.mem_cons.1 hu with rfl | hu
  · rfl
  · rw [List.mem_singleton.1 hu]
    rfl
theorem lenOk1 {n : Nat} (h : n ≤ 1000000) : n + 1 ≤ maxLen := by unfold maxLen; omega
theorem lenOk2 {n : Nat} (h : n ≤ 1000000) : (n + 1) * 40 ≤ 140737488355328 := by omega
theorem R_put {A : World} {N D : Nat} {v : Value} {L : List S33} {ob o' : Obj} (hR : Kd.R k33 33 A N (fun _ => True) v L) (hK : A.heap[D]? = some ob) (hob : ob.isCells = false) : Kd.R k33 33 (A.putObj D o') N (fun _ => True) v L := by
  refine Kd.R_mono (Kd.R_grown (Kd.R_bound hR) (grownBy_putObj' A D o') (fun k hk e' => ?_)) (fun _ _ => trivial)
  obtain ⟨_, _, _, q, _, cells, hcl⟩ := hk
  injection e' with e'
  rw [e', hK] at hcl
  cases hcl
  cases hob
def XS : Type := { y : ByteArray // y.size ≤ 131072 }
def LI (w : World) (N : Nat) (pre : List XS) (W : World) : Prop := ∃ L, lstF [] (pre.map (·.val)) = some L ∧ LB w N 0 0 (pre.length : Int) L W
def LX (w : World) (N : Nat) (c : Code) (pre : List XS) (W : World) : Prop := c = .ret ∧ ∃ p l L, pre.map (·.val) = p ++ [l] ∧ lstF [] p = some L ∧ logStep L (trimL l) = none ∧ ∃ n L', LB w N (pre.length : Int) 2 n L' W
def flatE : TypeDesc → Bool
  | .struct _ => false
  | .array _ _ => false
  | _ => true
theorem loadVar_one {P : Program} (w : World) (ty : TypeId) (a : Addr) (v : Value) (d : TypeDesc) (hu : P.underlying ty = some d) (hd : flatE d = true) (hc : w.cell? a = some v) : (loadVar ty a).run P w = .ok v w := by
  have hagg : (isAgg ty).run P w = .ok false w := by
    unfold isAgg
    rw [Sem.run_bind, run_underlying hu w]
    cases d <;> simp_all [flatE]
  simp [loadVar, Sem.run_bind, hagg, hc]
theorem results_cells3 {fn : Func} {p q r : Tmp} {tp tq tr : TypeId} {P : Program} (h : fn.results = #[.cell p tp, .cell q tq, .cell r tr]) (tmps : Array Value) (w : World) (a b c : Addr) (u v x : Value) (d1 d2 d3 : TypeDesc)
    (hp : tmps.getD p undef = .pointer (some a)) (hq : tmps.getD q undef = .pointer (some b)) (hr : tmps.getD r undef = .pointer (some c)) (ha : w.cell? a = some u) (hb : w.cell? b = some v) (hc : w.cell? c = some x)
    (hu1 : P.underlying tp = some d1) (hd1 : flatE d1 = true) (hu2 : P.underlying tq = some d2) (hd2 : flatE d2 = true) (hu3 : P.underlying tr = some d3) (hd3 : flatE d3 = true) :
    (results fn tmps).run P w = .ok (.tuple #[u, v, x]) w := by
  have hp' : tmps[p]?.getD undef = .pointer (some a) := by simpa using hp
  have hq' : tmps[q]?.getD undef = .pointer (some b) := by simpa using hq
  have hr' : tmps[r]?.getD undef = .pointer (some c) := by simpa using hr
  simp [results, h, hp', hq', hr', asAddr, loadVar_one w tp a u d1 hu1 hd1 ha, loadVar_one w tq b v d2 hu2 hd2 hb, loadVar_one w tr c x d3 hu3 hd3 hc]
theorem trimN.calls (l t : ByteArray) (W : World) (hl : l.size ≤ 1000000) (ht : trimL l = t) : Calls Tryd.prog 17 #[.string l, .string ⟨#[10]⟩] W fun e w' => e = .returned (.string t) ∧ Below W.heap.size W w' := by
  subst ht
  refine (strings_TrimSuffix.calls l ⟨#[10]⟩ _ W (trim_eq l hl)).mono ?_
  rintro e w' ⟨rfl, hd⟩
  exact ⟨rfl, hd.below⟩
set_option maxRecDepth 100000 in
set_option maxHeartbeats 4000000 in
theorem blog.large (s : ByteArray) (w : World) (hs : s.size > 131072) : Calls Tryd.prog 6 #[.string s] w fun e w' => LogPost s w e w' := by
  have g1 : decide (131072 < (s.size : Int)) = true := decide_eq_true (by omega)
  have g2 : decide (131072 < s.size) = true := decide_eq_true hs
  have k0 := ((Boxed.new w 23 (.slice none 0 0)).alloc (.cells #[.int .i64 0] 3)).alloc (.cells #[.int .i64 3] 24)
  have k1 := (Boxed.new (w.alloc (.cells #[.slice none 0 0] 23)) 3 (.int .i64 0)).alloc (.cells #[.int .i64 3] 24)
  have k2 := Boxed.new ((w.alloc (.cells #[.slice none 0 0] 23)).alloc (.cells #[.int .i64 0] 3)) 24 (.int .i64 3)
  have hb : Below w.heap.size w (((w.alloc (.cells #[.slice none 0 0] 23)).alloc (.cells #[.int .i64 0] 3)).alloc (.cells #[.int .i64 3] 24)) := (((Below.refl _ w).alloc (Nat.le_refl _) _).alloc (by simp) _).alloc (by simp; omega) _
  rw [World.size_alloc] at k1
  rw [World.size_alloc, World.size_alloc] at k2
  have HS := Aside0.mk hs
  clear hs
  have K0 := Aside0.mk k0
  have K1 := Aside0.mk k1
  have K2 := Aside0.mk k2
  have HB := Aside0.mk hb
  clear k0 k1 k2 hb
  go_enter Tryd.func6, Tryd.ntmps6
  go_wp2
  (try simp only [Exit.inBlock, Exit.then])
  refine bodyPost_ret (results_cells3 rfl _ _ ⟨w.heap.size, 0, none⟩ ⟨w.heap.size + 1, 0, none⟩ ⟨w.heap.size + 1 + 1, 0, none⟩ _ _ _ _ _ _ rfl rfl rfl K0.out.cell K1.out.cell K2.out.cell Tryd.underlying23 rfl Tryd.underlying3 rfl Tryd.underlying24 rfl) rfl ?_
  refine ⟨_, [], 0, 3, rfl, Kd.R_nil _ _ _ _ _, HB.out, ?_⟩
  unfold LogS
  rw [if_pos HS.out]
set_option maxRecDepth 100000 in
set_option maxHeartbeats 4000000 in
theorem blog.main (s : ByteArray) (w : World) (hT : Tabs w) (hs : s.size ≤ 131072) : Calls Tryd.prog 6 #[.string s] w fun e w' => LogPost s w e w' := by
  have g1 : decide (131072 < (s.size : Int)) = false := decide_eq_false (by omega)
  have g2 : decide (131072 < s.size) = false := decide_eq_false (by omega)
  have HS := Lib.hid hs
  have HT := Lib.hid hT
  clear hs hT
  have mixed : Tryd.prog.follows Departure.mixedOrders = true := by kernel_rfl
  refine (callsIn_wide (n := 3)).1 ?_
  refine callsIn_of_wp_marks Tryd.func6 rfl trivial ?_ rfl
  simp only [Tryd.ntmps6, List.size_toArray, List.length_cons, List.length_nil, Nat.reduceAdd, Nat.reduceSub, Array.replicate_succ, Array.replicate_zero, List.push_toArray, List.append_toArray, List.nil_append, List.cons_append]
  gi_wp2_with (refine ⟨trivial, ?_⟩; gi_at_call 16; refine (lines.in_ Fence.wide _ trivial rfl _ _).mono ?_; rintro e w' ⟨rfl, rfl⟩)
  obtain ⟨N, hN⟩ : ∃ N, w.heap.size = N := ⟨_, rfl⟩
  have hU0 : LB w N 0 0 0 [] ((((((w.alloc (.cells #[.slice none 0 0] 23)).alloc (.cells #[.int .i64 0] 3)).alloc (.cells #[.int .i64 0] 24)).alloc (.cells #[.slice none 0 0] 23)).alloc (.cells #[.int .i64 0] 3)).alloc (.cells #[.string s] 9)) := by
    subst hN
    have k0 : Boxed ((((((w.alloc (.cells #[.slice none 0 0] 23)).alloc (.cells #[.int .i64 0] 3)).alloc (.cells #[.int .i64 0] 24)).alloc (.cells #[.slice none 0 0] 23)).alloc (.cells #[.int .i64 0] 3)).alloc (.cells #[.string s] 9)) w.heap.size 23 (.slice none 0 0) := (((((Boxed.new w _ _).alloc _).alloc _).alloc _).alloc _).alloc _
    have k1 : Boxed ((((((w.alloc (.cells #[.slice none 0 0] 23)).alloc (.cells #[.int .i64 0] 3)).alloc (.cells #[.int .i64 0] 24)).alloc (.cells #[.slice none 0 0] 23)).alloc (.cells #[.int .i64 0] 3)).alloc (.cells #[.string s] 9)) (w.alloc (.cells #[.slice none 0 0] 23)).heap.size 3 (.int .i64 0) := ((((Boxed.new (w.alloc (.cells #[.slice none 0 0] 23)) _ _).alloc _).alloc _).alloc _).alloc _
    have k2 : Boxed ((((((w.alloc (.cells #[.slice none 0 0] 23)).alloc (.cells #[.int .i64 0] 3)).alloc (.cells #[.int .i64 0] 24)).alloc (.cells #[.slice none 0 0] 23)).alloc (.cells #[.int .i64 0] 3)).alloc (.cells #[.string s] 9)) ((w.alloc (.cells #[.slice none 0 0] 23)).alloc (.cells #[.int .i64 0] 3)).heap.size 24 (.int .i64 0) := (((Boxed.new ((w.alloc (.cells #[.slice none 0 0] 23)).alloc (.cells #[.int .i64 0] 3)) _ _).alloc _).alloc _).alloc _
    have k3 : Boxed ((((((w.alloc (.cells #[.slice none 0 0] 23)).alloc (.cells #[.int .i64 0] 3)).alloc (.cells #[.int .i64 0] 24)).alloc (.cells #[.slice none 0 0] 23)).alloc (.cells #[.int .i64 0] 3)).alloc (.cells #[.string s] 9)) (((w.alloc (.cells #[.slice none 0 0] 23)).alloc (.cells #[.int .i64 0] 3)).alloc (.cells #[.int .i64 0] 24)).heap.size 23 (.slice none 0 0) := ((Boxed.new (((w.alloc (.cells #[.slice none 0 0] 23)).alloc (.cells #[.int .i64 0] 3)).alloc (.cells #[.int .i64 0] 24)) _ _).alloc _).alloc _
    have k4 : Boxed ((((((w.alloc (.cells #[.slice none 0 0] 23)).alloc (.cells #[.int .i64 0] 3)).alloc (.cells #[.int .i64 0] 24)).alloc (.cells #[.slice none 0 0] 23)).alloc (.cells #[.int .i64 0] 3)).alloc (.cells #[.string s] 9)) ((((w.alloc (.cells #[.slice none 0 0] 23)).alloc (.cells #[.int .i64 0] 3)).alloc (.cells #[.int .i64 0] 24)).alloc (.cells #[.slice none 0 0] 23)).heap.size 3 (.int .i64 0) := (Boxed.new ((((w.alloc (.cells #[.slice none 0 0] 23)).alloc (.cells #[.int .i64 0] 3)).alloc (.cells #[.int .i64 0] 24)).alloc (.cells #[.slice none 0 0] 23)) _ _).alloc _
    simp only [World.size_alloc, Nat.add_assoc, Nat.reduceAdd] at k1 k2 k3 k4
    exact ⟨k0, k1, k2, ⟨none, 0, k3, Kd.R_nil _ _ _ _ _⟩, k4, ((((((Below.refl _ w).alloc (Nat.le_refl _) _).alloc (by simp) _).alloc (by simp; omega) _).alloc (by simp; omega) _).alloc (by simp; omega) _).alloc (by simp; omega) _, rfl⟩
  have hN5 : Boxed ((((((w.alloc (.cells #[.slice none 0 0] 23)).alloc (.cells #[.int .i64 0] 3)).alloc (.cells #[.int .i64 0] 24)).alloc (.cells #[.slice none 0 0] 23)).alloc (.cells #[.int .i64 0] 3)).alloc (.cells #[.string s] 9)) (N + 5) 9 (.string s) := by
    have := Boxed.new (((((w.alloc (.cells #[.slice none 0 0] 23)).alloc (.cells #[.int .i64 0] 3)).alloc (.cells #[.int .i64 0] 24)).alloc (.cells #[.slice none 0 0] 23)).alloc (.cells #[.int .i64 0] 3)) 9 (.string s)
    simp only [World.size_alloc, Nat.add_assoc, Nat.reduceAdd, hN] at this
    exact this
  have hsz : ((((((w.alloc (.cells #[.slice none 0 0] 23)).alloc (.cells #[.int .i64 0] 3)).alloc (.cells #[.int .i64 0] 24)).alloc (.cells #[.slice none 0 0] 23)).alloc (.cells #[.int .i64 0] 3)).alloc (.cells #[.string s] 9)).heap.size = N + 6 := by simp [hN]
  rw [show w.heap.size + 1 + 1 + 1 + 1 + 1 = N + 5 by omega, show w.heap.size + 1 + 1 + 1 + 1 = N + 4 by omega, show w.heap.size + 1 + 1 + 1 = N + 3 by omega, show w.heap.size + 1 + 1 = N + 2 by omega, show w.heap.size + 1 = N + 1 by omega, hN]
  generalize ((((((w.alloc (.cells #[.slice none 0 0] 23)).alloc (.cells #[.int .i64 0] 3)).alloc (.cells #[.int .i64 0] 24)).alloc (.cells #[.slice none 0 0] 23)).alloc (.cells #[.int .i64 0] 3)).alloc (.cells #[.string s] 9)) = W0 at *
  refine range_st rfl (by omega) (gf := 30) (lb := #[.pointer (some ⟨N + 5, 0, none⟩)]) rfl trivial (enters_of Tryd.func30 (by kernel_rfl) rfl)
    (encs := fun y : XS => #[.string y.val]) (Kp := LinKp (N + 5) 9) (St := LinSt (N + 5) 9) (S := fun ls : List XS => isLin s (ls.map (·.val))) (Sp := fun pre : List XS => ∃ r, isLin s (pre.map (·.val) ++ r)) (N := 1000000)
    ?seq (fun h k u hu => k u (h u hu)) ?kb (fun _ => rfl) ?st (LI w N) (LX w N) ?hI ?hIx ?hIs ?hIxs ?h0
    (fun x => { tmps := #[.string s, undef, .pointer (some ⟨N, 0, none⟩), .pointer (some ⟨N + 1, 0, none⟩), .pointer (some ⟨N + 2, 0, none⟩), .pointer (some ⟨N + 3, 0, none⟩), .pointer (some ⟨N + 4, 0, none⟩), .string x.val, undef, undef, .string s, .int .i64 s.size, .bool false, .string s, .func (.func 30) #[] #[.pointer (some ⟨N + 5, 0, none⟩)], .string x.val, undef, undef, undef, undef, undef, undef, undef, undef, undef, undef, undef, undef, undef, undef, undef, undef, undef, undef, undef, undef, undef, undef, undef, undef, undef, undef, undef, undef], defers := [] }) ?assign ?body ?done ?stop
  case seq =>
    intro l J Jx W hW _ _ hJs _ hY h0
    refine (lines_1.in_ 2 (by omega) l (N + 5) s (by have := HS.out; omega) (fun pre W => ∃ q : List XS, q.map (·.val) = pre ∧ J q W) (fun pre W => ∃ q : List XS, q.map (·.val) = pre ∧ Jx q W) ?_ ?_ W ((hW.block _ (by omega)).trans hN5) ⟨[], rfl, h0⟩).mono ?_
    · rintro pre A B ⟨q, hq, hJ⟩ hst
      exact ⟨q, hq, hJs _ _ _ hJ hst⟩
    · rintro pre y A ⟨q, rfl, hJ⟩ hlen hy
      obtain ⟨fn, tmps, assign, body, hyy, hR⟩ := hY q ⟨y, by have := HS.out; omega⟩ A hJ (by simpa using hlen)
      refine ⟨fn, tmps, assign, body, hyy, hR.mono ?_⟩
      rintro e B (⟨he, h1, h2⟩ | ⟨he, h1⟩)
      · exact .inl ⟨he, ⟨_, by rw [List.map_append]; rfl, h1⟩, h2⟩
      · exact .inr ⟨he, ⟨_, by rw [List.map_append]; rfl, h1⟩⟩
    · rintro e B ⟨he, ⟨ys, hys, q, rfl, hJ⟩ | ⟨pre, ⟨r, hr⟩, q, rfl, hJ⟩⟩
      · exact ⟨he, .inl ⟨q, hys, hJ⟩⟩
      · exact ⟨he, .inr ⟨q, ⟨r, hr⟩, hJ⟩⟩
  case kb =>
    intro W l o o' hl ho hc _ u hu
    have hne : N + 5 ≠ l := by
      intro e
      subst e
      rw [show W.heap[N + 5]? = _ from hu] at ho
      cases ho
      cases hc
    exact (World.putObj_heap_other hne).trans hu
  case st =>
    rintro A B (⟨u, v, _, rfl⟩ | rfl)
    · exact KeepsOthers.setCell _ _ _
    · exact KeepsOthers.drew _
  case hI =>
    rintro pre A B row ⟨L, hu, hU⟩ hg hr
    exact ⟨L, hu, hU.kept hg (fun r e => ⟨by have := (hr r e).1; omega, (hr r e).2⟩)⟩
  case hIx =>
    rintro c pre A B row ⟨hc, p, l, L, h1, h2, h3, n, L', hU⟩ hg hr
    exact ⟨hc, p, l, L, h1, h2, h3, n, L', hU.kept hg (fun r e => ⟨by have := (hr r e).1; omega, (hr r e).2⟩)⟩
  case hIs =>
    rintro pre A B ⟨L, hu, hU⟩ hs
    exact ⟨L, hu, hU.step hs⟩
  case hIxs =>
    rintro c pre A B ⟨hc, p, l, L, h1, h2, h3, n, L', hU⟩ hs
    exact ⟨hc, p, l, L, h1, h2, h3, n, L', hU.step hs⟩
  case h0 => exact ⟨[], rfl, hU0⟩
  case assign =>
    intro l x W K hK
    gi_wp2
    exact hK
  case body =>
    clear hU0 hN5
    obtain ⟨i33, hi, hz0, hz1, hz2⟩ := info_parts info33
    have HI := Lib.hid (And.intro hi (And.intro hz0 (And.intro hz1 hz2)))
    clear hi hz0 hz1 hz2
    rintro l pre x W ⟨L, hL, hB⟩ hlen
    obtain ⟨y, hyx⟩ : ∃ y, x.val = y := ⟨_, rfl⟩
    have HYS := Lib.hid (show y.size ≤ 1000000 by have := x.property; rw [hyx] at this; omega)
    dsimp only
    rw [hyx]
    obtain ⟨n0, hn0⟩ : ∃ n0 : Int, (pre.length : Int) = n0 := ⟨_, rfl⟩
    obtain ⟨m, hm⟩ : ∃ m : Int, n0 + 1 = m := ⟨_, rfl⟩
    have i9 : wrap64 (n0 + 1) = m := by rw [w64 (by omega) (by omega)]; exact hm
    have i8 : IntKind.i64.wrap (n0 + 1) = m := (i64_w _).trans i9
    have HGO := Lib.hid (show ∀ L2 W', logStep L (trimL y) = some L2 → LB w N 0 0 m L2 W' → LI w N (pre ++ [x]) W' from fun L2 W' h1 h2 => ⟨L2, by rw [List.map_append, List.map_cons, List.map_nil, hyx, lstF_snoc hL]; exact h1, by rw [List.length_append, List.length_singleton, show ((pre.length + 1 : Nat) : Int) = m by omega]; exact h2⟩)
    have HNO := Lib.hid (show ∀ W' n L2, logStep L (trimL y) = none → LB w N m 2 n L2 W' → LX w N .ret (pre ++ [x]) W' from fun W' n L2 h1 h2 => ⟨rfl, pre.map (·.val), y, L, by rw [List.map_append, List.map_cons, List.map_nil, hyx], hL, h1, n, L2, by rw [List.length_append, List.length_singleton, show ((pre.length + 1 : Nat) : Int) = m by omega]; exact h2⟩)
    rw [hn0] at hB
    obtain ⟨row, hrow⟩ : ∃ row, trimL y = row := ⟨_, rfl⟩
    rw [hrow] at HGO HNO
    have HROW := Lib.hid hrow
    have HRS := Lib.hid (show row.size ≤ 1000000 by rw [← hrow]; exact trimL_size y HYS.out)
    have HLN := Lib.hid (show L.length ≤ 1000000 by have := lstF_len _ _ _ hL; rw [List.length_map, List.length_nil] at this; omega)
    have q5 := hB.b4.cell
    have f5 := hB.b4.frozen
    have HB1 := Lib.hid (hB.count m)
    have HK1 := Lib.hid (LK.set (N := N) (A := W) (b := N + 4) (by omega) (.int .i64 m))
    clear hL hlen hyx hn0 hm hrow hB
    by_cases c0 : row.size = 0
    · have c13 : row.toList = [] := by rw [Lib.toList_data]; exact List.eq_nil_of_length_eq_zero (by rw [← Lib.size_eq]; exact c0)
      have c13b0 : (row.toList == ([] : List UInt8)) = true := beq_iff_eq.mpr c13
      have HST := Lib.hid (show logStep L row = some L by unfold logStep; rw [if_pos (.inl c0)])
      clear c0
      gi_wp2_with (refine ⟨trivial, ?_⟩; gi_at_call 17; refine (CallsIn.inRound l (callsIn_wide.2 (trimN.calls y row _ HYS.out HROW.out))).mono ?_; rintro e W2 ⟨rfl, hb⟩; have HB2 := Lib.hid (HB1.out.move hb); have HK2 := Lib.hid (HK1.out.trans (LK.below (N := N) hb)); clear hb)
      exact ⟨HK2.out.1.from _, HK2.out.2, HGO.out _ _ HST.out HB2.out⟩
    · have c13b0 : (row.toList == ([] : List UInt8)) = false := beq_eq_false_iff_ne.mpr fun e => c0 (by rw [Lib.toList_data] at e; rw [Lib.size_eq, e]; rfl)
      have p0 : 0 < row.size := by omega
      have hx15 : ∀ h : 0 < row.size, ((row[0]'h).toNat : Int) = bt row 0 := bt_at row 0
      by_cases c1 : bt row 0 = 35
      · have c15 : (bt row 0 == 35) = true := beq_iff_eq.mpr c1
        have HST := Lib.hid (show logStep L row = some L by unfold logStep; rw [if_pos (.inr c1)])
        clear c0 c1
        gi_wp2_with (refine ⟨trivial, ?_⟩; gi_at_call 17; refine (CallsIn.inRound l (callsIn_wide.2 (trimN.calls y row _ HYS.out HROW.out))).mono ?_; rintro e W2 ⟨rfl, hb⟩; have HB2 := Lib.hid (HB1.out.move hb); have HK2 := Lib.hid (HK1.out.trans (LK.below (N := N) hb)); clear hb)
        exact ⟨HK2.out.1.from _, HK2.out.2, HGO.out _ _ HST.out HB2.out⟩
      · have c15 : (bt row 0 == 35) = false := beq_eq_false_iff_ne.mpr c1
        have HC0 := Lib.hid (show ¬ (row.size = 0 ∨ bt row 0 = 35) from fun h => h.elim c0 c1)
        clear c0 c1
        obtain ⟨b, hb⟩ : ∃ b, (secOf row).2.2 = b := ⟨_, rfl⟩
        have HSB := Lib.hid hb
        cases b with
        | false =>
          clear hb
          have HST := Lib.hid (show logStep L row = none by unfold logStep; rw [if_neg HC0.out, HSB.out, if_neg (by decide)])
          gi_wp2_with (first
            | (refine ⟨trivial, ?_⟩; gi_at_call 17; refine (CallsIn.inRound l (callsIn_wide.2 (trimN.calls y row _ HYS.out HROW.out))).mono ?_; rintro e W2 ⟨rfl, hb⟩; have HB2 := Lib.hid (HB1.out.move hb); have HK2 := Lib.hid (HK1.out.trans (LK.below (N := N) hb)); clear hb)
            | (refine ⟨trivial, ?_⟩; gi_at_call 18; refine (CallsIn.inRound l (callsIn_wide.2 (secN.calls row HRS.out _ (HB2.out.tabs HT.out) _ HSB.out))).mono ?_; rintro e W3 ⟨lab, A3, n3, c3, key, rfl, hn3, -, -, hb⟩; have HB3 := Lib.hid (HB2.out.move hb); have HK3 := Lib.hid (HK2.out.trans (LK.below (N := N) hb)); clear hb hn3))
          obtain ⟨W4, hW4⟩ : ∃ W4, W3.alloc (.cells #[.string lab, .slice A3 n3 c3] 33) = W4 := ⟨_, rfl⟩
          have HB4 := Lib.hid (HB3.out.move (by rw [← hW4]; exact (Below.refl _ W3).alloc (Nat.le_refl _) _) (B := W4))
          have HK4 := Lib.hid (HK3.out.trans (LK.below (N := N) (B := W4) (by rw [← hW4]; exact (Below.refl _ W3).alloc (Nat.le_refl _) _)))
          rw [hW4]
          clear hW4
          have q0 := HB4.out.b0.cell
          have f0 := HB4.out.b0.frozen
          have q1 := HB4.out.b1.cell
          have f1 := HB4.out.b1.frozen
          have q2 := HB4.out.b2.cell
          have f2 := HB4.out.b2.frozen
          have q4 := HB4.out.b4.cell
          gi_region_o
          all_goals (gi_wp2; exact ⟨((HK4.out.trans (LK.bad (N := N) _ _ _)).trans (LK.below (N := N) (Below.drew (Below.refl _ _)))).1.from _, HNO.out _ _ _ HST.out ((HB4.out.bad m 2).move (Below.drew (Below.refl _ _)))⟩)
        | true =>
          clear hb
          have HST := Lib.hid (show logStep L row = some (L ++ [⟨(secOf row).1, (secOf row).2.1⟩]) by unfold logStep; rw [if_neg HC0.out, HSB.out, if_pos rfl])
          gi_wp2_with (first
            | (refine ⟨trivial, ?_⟩; gi_at_call 17; refine (CallsIn.inRound l (callsIn_wide.2 (trimN.calls y row _ HYS.out HROW.out))).mono ?_; rintro e W2 ⟨rfl, hb⟩; have HB2 := Lib.hid (HB1.out.move hb); have HK2 := Lib.hid (HK1.out.trans (LK.below (N := N) hb)); clear hb)
            | (refine ⟨trivial, ?_⟩; gi_at_call 18; refine (CallsIn.inRound l (callsIn_wide.2 (secN.calls row HRS.out _ (HB2.out.tabs HT.out) _ HSB.out))).mono ?_; rintro e W3 ⟨lab, A3, n3, c3, key, rfl, hn3, hk, hR, hb⟩; have HB3 := Lib.hid (HB2.out.move hb); have HK3 := Lib.hid (HK2.out.trans (LK.below (N := N) hb)); subst hn3; have HKE := Lib.hid (hk rfl); obtain ⟨Ap, cp, inner, q3, hown3, hnews, hle5, hj⟩ := LB.pre (lab := lab) HB2.out hb rfl hR; have HOWN := Lib.hid hown3; have HNEWS := Lib.hid hnews; have HLE5 := Lib.hid hle5; have HJ := Lib.hid hj; clear hb hk hR hown3 hnews hle5 hj)
            | (gi_at_builtin; refine wpListIn_append_own_at _ rfl _ _ 23 rfl N 33 i33 (.agg #[.string ⟨#[]⟩, .slice none 0 0]) 2 40 Tryd.underlying23 HI.out.1 HI.out.2.1 HI.out.2.2.1 HI.out.2.2.2 rfl (by decide) _ L.length inner rfl HOWN.out ⟨W3.heap.size + 1, 0, none⟩ 1 1 [.string lab, .slice A3 key.length c3] rfl rfl HNEWS.out (secOne lab A3 key.length c3) (lenOk1 HLN.out) (lenOk2 HLN.out) HLE5.out ?_; intro v5 w5 hown5 hg5 _ hat5; obtain ⟨k1, k2, k3⟩ := HJ.out v5 w5 hown5 hg5 hat5; obtain ⟨av5, cv5, rfl⟩ := row_slice hown5; have q6 := k1.cell; have f6 := k1.frozen; have HB6 := Lib.hid k2; have HK6 := Lib.hid k3; clear hown5 hg5 hat5 k1 k2 k3))
          obtain ⟨e1, e2⟩ := HKE.out
          have hst := HST.out
          rw [← e1, ← e2] at hst
          exact ⟨(HK2.out.trans HK6.out).1.from _, (HK2.out.trans HK6.out).2, HGO.out _ _ hst HB6.out⟩
  case done =>
    rintro D ls W hD hls ⟨L, hu, hU⟩ hK
    have HLS := Lib.hid (show LogS s (logF [] 0 (ls.map (·.val))) by unfold LogS; rw [if_neg (by have := HS.out; omega)]; exact ⟨_, hls, rfl⟩)
    have HLF := Lib.hid (logF_done hu)
    have HD := Lib.hid (show N ≤ D by omega)
    have HKD := Lib.hid hK
    have HLB := Lib.hid hU
    have HLEN := Lib.hid (show ((ls.map (·.val)).length : Int) = (ls.length : Int) by rw [List.length_map])
    obtain ⟨Ap, cp, hv3, hr3⟩ := hU.b3
    have q3 := hv3.cell
    have q0 := hU.b0.cell
    have f0 := hU.b0.frozen
    have q1 := hU.b1.cell
    have f1 := hU.b1.frozen
    have q2 := hU.b2.cell
    have f2 := hU.b2.frozen
    have q4 := hU.b4.cell
    have HR3 := Lib.hid hr3
    clear hv3 hr3 hU hu hls hK hD hsz
    by_cases c60 : L.length > 60
    · have g3 : decide (60 < (L.length : Int)) = true := decide_eq_true (by omega)
      have g4 : decide (60 < L.length) = true := decide_eq_true c60
      have HC := Lib.hid c60
      clear c60
      gi_wp2
      have hK3 := (LK.bad (N := N) (A := W) (.slice none 0 0) (.int .i64 0) (.int .i64 3)).1.same D _ HKD.out rfl
      have hU2 := (HLB.out.bad 0 3).kept (grownBy_putObj' _ D (.deferred none)) (fun r e => by cases e; exact ⟨HD.out, _, hK3, rfl⟩)
      refine ⟨by simp, .inl ⟨_, _, rfl, run_takeDeferred hK3, ?_⟩⟩
      refine ⟨_, results_cells3 rfl _ _ ⟨N, 0, none⟩ ⟨N + 1, 0, none⟩ ⟨N + 2, 0, none⟩ _ _ _ _ _ _ rfl rfl rfl hU2.b0.cell hU2.b1.cell hU2.b2.cell Tryd.underlying23 rfl Tryd.underlying3 rfl Tryd.underlying24 rfl, .slice none 0 0, [], 0, 3, rfl, Kd.R_nil _ _ _ _ _, by rw [hN]; exact hU2.below, ?_⟩
      have h1 := HLS.out
      rw [HLF.out, if_pos HC.out] at h1
      exact h1
    · have g3 : decide (60 < (L.length : Int)) = false := decide_eq_false (by omega)
      have g4 : decide (60 < L.length) = false := decide_eq_false c60
      have HC := Lib.hid c60
      clear c60
      gi_wp2
      gi_region_o
      all_goals (
        gi_wp2
        have hK3 := ((LK.bad (N := N) (A := W) (.slice Ap L.length cp) (.int .i64 ls.length) (.int .i64 0)).trans (LK.below (N := N) (Below.drew (Below.refl _ _)))).1.same D _ HKD.out rfl
        obtain ⟨k0, k1, k2, kr, kb⟩ := HLB.out.good HR3.out ls.length 0
        have hg := grownBy_putObj' ((((W.setCell ⟨N, 0, none⟩ (.slice Ap L.length cp)).setCell ⟨N + 1, 0, none⟩ (.int .i64 ls.length)).setCell ⟨N + 2, 0, none⟩ (.int .i64 0)).drew) D (.deferred none)
        have ne : ∀ {b : Nat} {t : TypeId} {v : Value}, Boxed ((((W.setCell ⟨N, 0, none⟩ (.slice Ap L.length cp)).setCell ⟨N + 1, 0, none⟩ (.int .i64 ls.length)).setCell ⟨N + 2, 0, none⟩ (.int .i64 0)).drew) b t v → some b ≠ some D := fun hb e => by cases e; rw [show _ = _ from hb] at hK3; cases hK3
        have j0 := Boxed.kept (W := (((W.setCell ⟨N, 0, none⟩ (.slice Ap L.length cp)).setCell ⟨N + 1, 0, none⟩ (.int .i64 ls.length)).setCell ⟨N + 2, 0, none⟩ (.int .i64 0)).drew) k0 hg (ne k0)
        have j1 := Boxed.kept (W := (((W.setCell ⟨N, 0, none⟩ (.slice Ap L.length cp)).setCell ⟨N + 1, 0, none⟩ (.int .i64 ls.length)).setCell ⟨N + 2, 0, none⟩ (.int .i64 0)).drew) k1 hg (ne k1)
        have j2 := Boxed.kept (W := (((W.setCell ⟨N, 0, none⟩ (.slice Ap L.length cp)).setCell ⟨N + 1, 0, none⟩ (.int .i64 ls.length)).setCell ⟨N + 2, 0, none⟩ (.int .i64 0)).drew) k2 hg (ne k2)
        have jr := R_put (o' := .deferred none) (Kd.R_drew kr) hK3 rfl
        have jb := (kb.drew).grown hg (by have := kb.drew.size; rw [← hN]; rw [hN]; exact HLB.out.le ▸ this) (fun r e => by cases e; exact HD.out)
        refine ⟨by simp, .inl ⟨_, _, rfl, run_takeDeferred hK3, ?_⟩⟩
        refine ⟨_, results_cells3 rfl _ _ ⟨N, 0, none⟩ ⟨N + 1, 0, none⟩ ⟨N + 2, 0, none⟩ _ _ _ _ _ _ rfl rfl rfl j0.cell j1.cell j2.cell Tryd.underlying23 rfl Tryd.underlying3 rfl Tryd.underlying24 rfl, .slice Ap L.length cp, L, ls.length, 0, rfl, by rw [hN]; exact jr, by rw [hN]; exact jb, ?_⟩
        have h1 := HLS.out
        rw [HLF.out, if_neg HC.out, HLEN.out] at h1
        exact h1)
  case stop =>
    rintro D c pre W hD ⟨r, hr⟩ ⟨rfl, p, l, L, h1, h2, h3, n, L', hU⟩ hK
    have hU2 := hU.kept (grownBy_putObj' W D (.deferred none)) (fun r e => by cases e; exact ⟨by omega, _, hK, rfl⟩)
    gi_wp2
    refine ⟨by simp, .inl ⟨_, _, rfl, run_takeDeferred hK, ?_⟩⟩
    refine ⟨_, results_cells3 rfl _ _ ⟨N, 0, none⟩ ⟨N + 1, 0, none⟩ ⟨N + 2, 0, none⟩ _ _ _ _ _ _ rfl rfl rfl hU2.b0.cell hU2.b1.cell hU2.b2.cell Tryd.underlying23 rfl Tryd.underlying3 rfl Tryd.underlying24 rfl, .slice none 0 0, [], _, 2, rfl, Kd.R_nil _ _ _ _ _, by rw [hN]; exact hU2.below, ?_⟩
    unfold LogS
    rw [if_neg (by have := HS.out; omega)]
    refine ⟨_, hr, ?_⟩
    rw [h1, logF_stop h2 h3, ← h1, List.length_map]
theorem blog.calls (s : ByteArray) (w : World) (hT : Tabs w) : Calls Tryd.prog 6 #[.string s] w fun e w' => LogPost s w e w' := by
  by_cases h : s.size > 131072
  · exact blog.large s w h
  · exact blog.main s w hT (by omega)
end Go.Proofs.YtbdakgkjomanlaaDoor.Pure
