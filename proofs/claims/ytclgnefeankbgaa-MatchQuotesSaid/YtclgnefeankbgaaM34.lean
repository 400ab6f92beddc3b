/- A repetition written: its three cases joined. Conditions: as each theorem says. -/
import Derived.Test.YtclgnefeankbgaaM33
import Derived.OwnWalk
namespace Go.Proofs.Ytclgnefeankbgaa.M
open Go Go.RowKit
set_option linter.unusedVariables false
set_option linter.unusedSimpArgs false
theorem bnd_rep {N m L : Nat} {T : Int} (hT : ((m + 1 : Nat) : Int) ≤ T) (hL : L = bnd (N : Int)) : (m + 1) * L + 2 ≤ bnd ((N : Int) * T + 1) := by
  have hm : (N : Int) * ((m + 1 : Nat) : Int) ≤ (N : Int) * T := Int.mul_le_mul_of_nonneg_left hT (by omega)
  have hm1 : (N : Int) * ((m + 1 : Nat) : Int) = (((m + 1) * N : Nat) : Int) := by rw [← Int.natCast_mul, Nat.mul_comm]
  rw [hm1] at hm
  have h4 : L ≤ 4 * N := by unfold bnd at hL; omega
  have hmL : (m + 1) * L ≤ 4 * ((m + 1) * N) := Nat.le_trans (Nat.mul_le_mul_left (m + 1) h4) (by rw [Nat.mul_left_comm]; exact Nat.le_refl _)
  unfold bnd
  omega
theorem bnd_many {N m d L : Nat} (hL : L = bnd (N : Int)) : m * L + d * (4 * N) + 2 ≤ bnd ((N : Int) * ((m : Int) + (d : Int)) + 1) := by
  have hm1 : (N : Int) * ((m : Int) + (d : Int)) = ((m * N + d * N : Nat) : Int) := by rw [← Nat.add_mul, Int.natCast_mul, Int.natCast_add, Int.mul_comm]
  rw [hm1]
  have h4 : L ≤ 4 * N := by unfold bnd at hL; omega
  have hmL : m * L ≤ 4 * (m * N) := Nat.le_trans (Nat.mul_le_mul_left m h4) (by rw [Nat.mul_left_comm]; exact Nat.le_refl _)
  have hdL : d * (4 * N) = 4 * (d * N) := Nat.mul_left_comm _ _ _
  unfold bnd
  omega
theorem CodeC.congr {F : FuncId} {arg : PV → Value} {f g : List ST → List ST} {t : Pt} {a b : Nat} (h : CodeC F arg f t a) (hf : f = g) (hab : a ≤ b) : CodeC F arg g t b := by
  subst hf
  intro lo pp s z xs bk v W hp h1 h2 h3 hfv hl
  exact h lo pp s z xs bk v W hp h1 h2 h3 hfv (by omega)
theorem code.rep (c : C4) (le mo : Int) (nu : Bool) (kids : Pt) (hIH : KidsC kids) (hok : (Pt.cons 5 c le mo nu kids .nil).ok) (hfit : (Pt.cons 5 c le mo nu kids .nil).fit) (hsz : szOf 5 le mo nu (sumP kids 0) kids.len ≤ 300) : CodeC 55 (fun v => .agg v.cells) (code1 5 c le mo (codes kids)) (.cons 5 c le mo nu kids .nil) (bnd (szOf 5 le mo nu (sumP kids 0) kids.len)) := by
  obtain ⟨h, hk, _⟩ := hok
  obtain ⟨h', hk', _⟩ := hfit
  have hl1 := h.2.2.2.2.2.2 rfl
  obtain ⟨hle0, hle, hmo0, hmo, _⟩ := h
  obtain ⟨_, _, hfit⟩ := h'
  obtain ⟨hf0, hf1⟩ := hfit rfl
  cases kids with
  | nil => exact absurd hl1 (by decide)
  | cons k' c' le' mo' nu' kids' rest =>
    have hr : rest = .nil := by
      cases rest with
      | nil => rfl
      | cons => unfold Pt.len at hl1; unfold Pt.len at hl1; omega
    subst hr
    obtain ⟨g0, g1, _⟩ := codes_gr _ hk hk'
    obtain ⟨z1, hz1⟩ : ∃ y, szOf k' le' mo' nu' (sumP kids' 0) kids'.len = y := ⟨_, rfl⟩
    obtain ⟨f, hf⟩ : ∃ f, code1 k' c' le' mo' (codes kids') = f := ⟨_, rfl⟩
    rw [hz1] at g0 g1
    have g0 : z1 ≤ 300 → Gr f (bnd z1) := fun h => hf ▸ g0 h
    have hcall : z1 ≤ 300 → CodeC 36 (fun v => .agg v.cells) f (.cons k' c' le' mo' nu' kids' .nil) (bnd z1) := fun hz => by
      have := hIH k' c' le' mo' nu' kids' (by show kids'.sz < kids'.sz + 0 + 1; omega) hk hk' (by rw [hz1]; exact hz)
      rw [hz1, hf] at this
      exact this
    have hsum : sumP (.cons k' c' le' mo' nu' kids' .nil) 0 = min z1 600 := by
      rw [sumP, hz1, Int.zero_add]
      rfl
    have hfun : code1 5 c le mo (codes (.cons k' c' le' mo' nu' kids' .nil)) = repC le mo f := by
      funext xs
      unfold code1
      rw [if_neg (by decide), if_neg (by decide), if_neg (by decide), if_neg (by decide), if_neg (by decide)]
      show repC le mo (code1 k' c' le' mo' (codes kids')) xs = repC le mo f xs
      rw [hf]
    have hso : szOf 5 le mo nu (sumP (.cons k' c' le' mo' nu' kids' .nil) 0) (Pt.cons k' c' le' mo' nu' kids' .nil).len = min z1 600 * timesP le mo nu + 1 := by
      rw [hsum]
      unfold szOf
      rw [if_neg (by decide), if_pos rfl]
    rw [hso] at hsz ⊢
    rw [hfun]
    obtain ⟨N, rfl⟩ : ∃ N : Nat, z1 = (N : Int) := ⟨z1.toNat, by omega⟩
    have hsmall : 1 ≤ timesP le mo nu → N ≤ 299 := fun ht => by
      have := Int.mul_le_mul_of_nonneg_left (c := min (N : Int) 600) ht (by omega)
      omega
    have hmin : N ≤ 299 → min (N : Int) 600 = (N : Int) := fun h => by omega
    by_cases c2 : mo < 0
    · have ht : le ≤ timesP le mo nu ∧ 1 ≤ timesP le mo nu := by
        unfold timesP
        cases nu with
        | true => rw [if_pos rfl, if_pos c2]; omega
        | false => rw [if_neg (by decide)]; have := hf0 rfl; omega
      have hN := hsmall ht.2
      rw [hmin hN]
      have gg := g0 (by omega)
      have cc := hcall (by omega)
      by_cases c1 : le = 0
      · subst c1
        refine rep.star c mo nu _ f _ (bnd (N : Int)) gg ?_ hl1 c2 cc
        have := bnd_rep (m := 0) (N := N) (L := bnd (N : Int)) (T := timesP 0 mo nu) (by omega) rfl
        omega
      · obtain ⟨m, rfl⟩ : ∃ m : Nat, le = (m : Int) + 1 := ⟨(le - 1).toNat, by omega⟩
        exact rep.plus c m mo nu _ f _ (bnd (N : Int)) gg (bnd_rep (by omega) rfl) (by omega) hl1 c2 cc
    · obtain ⟨m, rfl⟩ : ∃ m : Nat, le = (m : Int) := ⟨le.toNat, by omega⟩
      have hlm : (m : Int) ≤ mo := by
        cases nu with
        | true => have := hf1 rfl; omega
        | false => have := hf0 rfl; omega
      obtain ⟨d, rfl⟩ : ∃ d : Nat, mo = (m : Int) + (d : Int) := ⟨(mo - m).toNat, by omega⟩
      have ht : timesP (m : Int) ((m : Int) + (d : Int)) nu = (m : Int) + (d : Int) := by
        unfold timesP
        cases nu with
        | true => rw [if_pos rfl, if_neg c2]
        | false => rw [if_neg (by decide)]; have := hf0 rfl; omega
      rw [ht] at hsz hsmall ⊢
      by_cases c3 : 0 < m + d
      · have hN := hsmall (by omega)
        rw [hmin hN]
        exact rep.many c m d nu _ f _ (bnd (N : Int)) (4 * N) (g0 (by omega)) (by unfold bnd; omega) (bnd_many rfl) (by omega) hl1 fun _ => hcall (by omega)
      · have e1 : m = 0 := by omega
        have e2 : d = 0 := by omega
        subst e1
        subst e2
        refine CodeC.congr (rep.many c 0 0 nu _ id 2 0 0 (fun xs => ⟨Nat.le_refl _, Nat.le_refl _⟩) (.inl rfl) (by omega) (by omega) hl1 fun h => absurd h (by omega)) rfl ?_
        unfold bnd
        simp
end Go.Proofs.Ytclgnefeankbgaa.M
namespace Go.Proofs.Ytclgnefeankbgaa.M
open Go Go.RowKit Go.Proofs.YtclgnefeankbgaaW.PrintWords Go.Proofs.YtclgnefeankbgaaW.PrintLast Go.Proofs.YtclgnefeankbgaaW.PrintMore Hand
set_option linter.unusedVariables false
set_option linter.unusedSimpArgs false
/-- A pattern and a row of parts from a place on. -/
structure CA (lo pp : Nat) (s : ByteArray) (z : Int) (b0 : Option Nat) (W w : World) (v : PV) (ws : List PV) (i : Nat) (f : Pt) (xs : List ST) (b : Option Nat) : Prop where
  ps : PS w pp s z xs b
  ch : Ch pp b0 W w b
  lp : lo ≤ pp
  lb : ∀ k, b = some k → lo ≤ k
  lw : lo ≤ W.heap.size
  row : RowP w (fun k => k < lo) v ws
  fv : FV w (fun k => k < lo) f (ws.drop i)
/-- A variable beside a pattern. -/
structure V3 (w : World) (r : Nat) (u : PV) (b : Option Nat) (pp : Nat) : Prop where
  at_ : VAt w r 67 u.cells
  ne : r ≠ pp
  nb : b ≠ some r
section
variable {lo pp : Nat} {s : ByteArray} {z : Int} {b0 : Option Nat} {W w w' : World} {r : Nat} {u v : PV} {ws : List PV} {i : Nat} {f : Pt} {xs ys : List ST} {b b' e : Option Nat} {cap : Nat} {l : List Nat}
theorem V3.step (h : V3 w r u b pp) (hc : Ch pp b w w' b') : V3 w' r u b' pp := by
  have hl := blk_lt h.at_
  refine ⟨(hc.block r hl h.ne h.nb).trans h.at_, h.ne, fun e => ?_⟩
  rcases hc.own with ho | ho
  · exact h.nb (ho ▸ e)
  · have := ho r e; omega
theorem CA.new {kids : Pt} (hp : PS W pp s z xs b) (h1 : lo ≤ pp) (h2 : ∀ k, b = some k → lo ≤ k) (h3 : lo ≤ W.heap.size) (hrow : RowP W (fun k => k < lo) v ws) (hk : FV W (fun k => k < lo) kids ws) : CA lo pp s z b W W v ws 0 kids xs b :=
  ⟨hp, Ch.refl _ _ _, h1, h2, h3, hrow, hk⟩
theorem CA.step (h : CA lo pp s z b0 W w v ws i f xs b) (hp : PS w' pp s z ys b') (hc : Ch pp b w w' b') : CA lo pp s z b0 W w' v ws i f ys b' := by
  have hwsz : W.heap.size ≤ w.heap.size := h.ch.size
  have hlw := h.lw
  have hlp := h.lp
  have key : ∀ k, k < lo → k < w.heap.size → w'.heap[k]? = w.heap[k]? := fun k hk hkw => hc.block k hkw (by omega) (fun e => by have := h.lb k e; omega)
  refine ⟨hp, h.ch.trans hc, h.lp, fun k hk => ?_, h.lw, h.row.move key, h.fv.move key⟩
  rcases hc.own with ho | ho
  · exact h.lb k (ho ▸ hk)
  · have := ho k hk; omega
theorem CA.keep {t : Pt} {vs : List PV} (h : CA lo pp s z b0 W w v ws i f xs b) (hc : Ch pp b w w' b') (hf : FV w (fun k => k < lo) t vs) : FV w' (fun k => k < lo) t vs := by
  have hwsz : W.heap.size ≤ w.heap.size := h.ch.size
  have hlw := h.lw
  have hlp := h.lp
  exact hf.move fun k hk hkw => hc.block k hkw (by omega) (fun e => by have := h.lb k e; omega)
theorem CA.call (h : CA lo pp s z b0 W w v ws i f xs b) (hb : Below w.heap.size w w') : CA lo pp s z b0 W w' v ws i f xs b := h.step (h.ps.call hb) (Ch.of_below hb)
theorem CA.next {k : Int} {c : C4} {le mo : Int} {nu : Bool} {kids rest : Pt} (h : CA lo pp s z b0 W w v ws i (.cons k c le mo nu kids rest) xs b) : ∃ u kb, ws[i]? = some u ∧ v.b = some kb ∧ (∀ j x, u.cells[j]? = some x → w.cell? ⟨kb, i * 9 + j, none⟩ = some x) ∧ FV w (fun k => k < lo) (.cons k c le mo nu kids .nil) [u] ∧ CA lo pp s z b0 W w v ws (i + 1) rest xs b := by
  obtain ⟨a1, a2, a6, a7, a8, hrow, u, vs', h0, c1, c2, c3, c4, c5, c6, c7⟩ := h
  have hi : ws[i]? = some u := by
    have := congrArg (fun l => l[0]?) h0
    simp only [List.getElem?_drop, Nat.add_zero, List.getElem?_cons_zero] at this
    exact this
  have hv : vs' = ws.drop (i + 1) := by
    have := congrArg List.tail h0
    rw [List.tail_drop] at this
    exact this.symm
  obtain ⟨kb, hkb, hc⟩ := row_cells (hrow.mono (Y := fun _ => True) fun _ _ _ => trivial) hi
  subst hv
  exact ⟨u, kb, hi, hkb, hc, ⟨u, [], rfl, c1, c2, c3, c4, c5, c6, rfl⟩, a1, a2, a6, a7, a8, hrow, c7⟩
theorem CA.k2 (h : CA lo pp s z b0 W w v ws i f xs b) : ∃ cap, w.cell? ⟨pp, 2, none⟩ = some (.slice (b.map fun g => ⟨g, 0, none⟩) xs.length cap) ∧ w.frozen? ⟨pp, 2, none⟩ = false := by
  obtain ⟨⟨cap, h1, _⟩, _⟩ := h.ps
  exact ⟨cap, (blk_cell h1 2).trans rfl, blk_frozen h1 2⟩
theorem CA.grow (h : CA lo pp s z b0 W w v ws i f xs b) (hm : ∀ k, k < w.heap.size → e ≠ some k → w'.heap[k]? = w.heap[k]?) (hn : ∀ k, e = some k → W.heap.size ≤ k ∧ k ≠ pp ∧ b ≠ some k) (g1 : w'.os = w.os) (g2 : w'.tape = w.tape) (g3 : w'.output = w.output) (g4 : w.heap.size ≤ w'.heap.size) : CA lo pp s z b0 W w' v ws i f xs b := by
  have hw := h.ch.size
  have key : ∀ k, k < lo → k < w.heap.size → w'.heap[k]? = w.heap[k]? := fun k hk hkw => hm k hkw (fun e2 => by have := (hn k e2).1; have := h.lw; omega)
  refine ⟨h.ps.move fun k hk hor => hm k hk (fun e2 => ?_), ⟨g1.trans h.ch.os, g2.trans h.ch.tape, g3.trans h.ch.output, Nat.le_trans hw g4, fun k hk hp hb => (hm k (by omega) (fun e2 => by have := (hn k e2).1; omega)).trans (h.ch.block k hk hp hb), h.ch.own⟩, h.lp, h.lb, h.lw, h.row.move key, h.fv.move key⟩
  rcases hor with hor | hor
  · exact (hn k e2).2.1 hor
  · exact (hn k e2).2.2 hor
/-- A number's row of one is laid: what an append asks and gives. -/
theorem EN.joinA {w1 : World} (h : EN W w pp pp b e cap l) (hcd : CA lo pp s z b0 W w v ws i f xs b) (n : Nat) (hW : w1 = w.alloc (.cells #[.int .i64 (n : Int)] 3)) :
    w1.ownsRow 0 3 1 (slOf e l.length cap) l.length (intsV l) ∧ (∀ j u, [Value.int .i64 (n : Int)][j]? = some u → w1.cell? ((⟨w.heap.size, 0, none⟩ : Addr).add j) = some u) ∧
      ∀ x w', w'.ownsRow 0 3 1 x (l.length + 1) (intsV l ++ [.int .i64 (n : Int)]) → w1.grownBy w' (slOf e l.length cap).ownBlock → (x.ownBlock = (slOf e l.length cap).ownBlock ∨ x.ownBlock = some w1.heap.size) → ∃ e' cap', x = slOf e' (l.length + 1) cap' ∧ EN W w' pp pp b e' cap' (l ++ [n]) ∧ CA lo pp s z b0 W w' v ws i f xs b := by
  have hb2 : Below w.heap.size w w1 := by rw [hW]; exact below_alloc (Below.refl _ _) _
  have hnew : w1.heap[w.heap.size]? = some (.cells #[.int .i64 (n : Int)] 3 (0, 0)) := by rw [hW]; exact blk_new w _
  have hs1 := hb2.size
  have h1 := h.keep (w' := w1) (fun k hk => hb2.block k (h.new k hk).2.1) hb2.size
  have hcd1 := hcd.call hb2
  have hw := hcd.ch.size
  have hlt := hcd.ps.lt
  refine ⟨h1.own, fun j u hj => ?_, fun x w' hown hgr hat => ?_⟩
  · have h0 := blk_cell hnew j
    have ea : ((⟨w.heap.size, 0, none⟩ : Addr).add j) = ⟨w.heap.size, j, none⟩ := by unfold Addr.add; split <;> simp_all
    rw [ea, h0, ← hj]
    simp
  · obtain ⟨e', cap', rfl⟩ := own_int hown
    rw [slOf_own] at hat hgr
    rw [slOf_own] at hat
    have hgs := hgr.size
    have hn1 : ∀ k, e = some k → W.heap.size ≤ k ∧ k ≠ pp ∧ b ≠ some k := fun k hk => by obtain ⟨a1, a2, a3, a4, a5⟩ := h1.new k hk; exact ⟨a1, a3, a5⟩
    refine ⟨e', cap', rfl, ⟨?_, fun k hk => ?_⟩, hcd1.grow (e := e) (fun k hk he => hgr.block k hk (fun e2 => he e2.symm)) hn1 hgr.os hgr.tape hgr.output hgr.size⟩
    · have el : (l ++ [n]).length = l.length + 1 := by simp
      have ei : intsV (l ++ [n]) = intsV l ++ [.int .i64 (n : Int)] := by unfold intsV; simp
      rw [el, ei]
      exact hown
    · rcases hat with hat | hat
      · obtain ⟨a1, a2, a3, a4, a5⟩ := h1.new k (hat ▸ hk)
        exact ⟨a1, by omega, a3, a4, a5⟩
      · rw [hk] at hat
        cases hat
        have hbl := fun hk => hcd1.ps.blt (k := w1.heap.size) hk
        have hlt1 : w1.heap.size < w'.heap.size := by
          rcases hown.2 with ⟨hv, _⟩ | ⟨g, c2, cur, hv, _, hc, _⟩
          · rw [hk] at hv; unfold slOf at hv; cases hv
          · have := slOf_some hv
            rw [hk] at this
            cases this
            exact (Array.getElem?_eq_some_iff.1 hc).1
        exact ⟨by omega, hlt1, by omega, by omega, fun e2 => by have := hbl e2; omega⟩
end
end Go.Proofs.Ytclgnefeankbgaa.M
namespace Go.Proofs.Ytclgnefeankbgaa.M
open Go Go.RowKit Go.Proofs.YtclgnefeankbgaaW.PrintWords Go.Proofs.YtclgnefeankbgaaW.PrintLast Go.Proofs.YtclgnefeankbgaaW.PrintMore Hand
attribute [local go_sem] Oper.semAt_some max2_int min2_int max_two min_two max_three min_three max_four min_four
set_option linter.unusedVariables false
set_option linter.unusedSimpArgs false
set_option maxHeartbeats 16000000 in
set_option maxRecDepth 100000 in
theorem code.alt (c : C4) (le mo : Int) (nu : Bool) (kids : Pt) (hIH : KidsC kids) (hok : kids.ok) (hfit : kids.fit) (hpos : 0 < kids.len) (hsz : sumP kids 0 + kids.len - 1 ≤ 300) : CodeC 54 (fun v => v.sl) (code1 4 c le mo (codes kids)) (.cons 4 c le mo nu kids .nil) (bnd (sumP kids 0 + kids.len - 1)) := by
  intro lo pp s z xs b v W hp h1 h2 h3 hf hl
  obtain ⟨hvk, hvc, _⟩ := hf.head
  obtain ⟨v', vs', h0, _, _, _, _, _, ⟨ws, hrow, hkids⟩, _⟩ := hf
  cases h0
  have hse := sum_exact kids 0 hok (Int.le_refl 0) (by omega)
  rw [Int.zero_add] at hse
  have hn : v.n = kids.len := by rw [hrow.1, FV.len hkids]
  have hS0 := CA.new hp h1 h2 h3 hrow hkids
  have HS := Aside0.mk hS0
  obtain ⟨total, htot⟩ : ∃ t, code1 4 c le mo (codes kids) xs = t := ⟨_, rfl⟩
  rw [htot]
  obtain ⟨R, hR⟩ : ∃ R, altC (codes kids) [] xs = R := ⟨_, rfl⟩
  have htot2 : patchA R.1 R.2 = total := by
    rw [← htot, ← hR]
    unfold code1
    rw [if_neg (by decide), if_neg (by decide), if_neg (by decide), if_neg (by decide), if_pos rfl]
  have HT := Aside0.mk htot2
  have HR := Aside0.mk hR
  obtain ⟨A, hA⟩ : ∃ A, v.b.map (fun g => (⟨g, 0, none⟩ : Addr)) = A := ⟨_, rfl⟩
  have HA := Aside0.mk hA
  obtain ⟨N, hN⟩ : ∃ N, v.n = N := ⟨_, rfl⟩
  rw [hN] at hn
  have HNK := Aside0.mk hn
  have hs0 : v.sl = .slice A N v.cap := by rw [← hA, ← hN]; rfl
  dsimp only
  rw [hs0]
  have HOK := Aside0.mk hok
  have HFI := Aside0.mk hfit
  have HSE := Aside0.mk hse
  have HL := Aside0.mk hl
  have HSZ := Aside0.mk hsz
  have HPO := Aside0.mk hpos
  have HHI := Aside0.mk hIH
  have hN3 : N ≤ 301 := by omega
  have w0 : IntKind.i64.wrap ((N : Int) - 1) = (N : Int) - 1 := by rw [IntKind.wrap_i64]; omega
  clear hS0 hp h1 h2 h3 hrow hkids hl hsz hok hfit hse hA hN hn htot htot2 hIH hvc hs0 hR hpos hvk
  go_enter Try.func54, Try.ntmps54
  go_wp2
  go_loopg [4, 12] kids.len (fun kq v4 v12 w' => ∃ (i : Nat) (f : Pt) (ys : List ST) (b' e : Option Nat) (cap : Nat) (l : List Nat), v12 = .int .i64 (i : Int) ∧ v4 = .slice (e.map fun g => ⟨g, 0, none⟩) l.length cap ∧ f.len = kq ∧ 0 < f.len ∧ i + kq = N ∧ f.sz ≤ kids.sz ∧ f.ok ∧ f.fit ∧ (sizes f).sum + f.len - 1 ≤ 300 ∧ ys.length + bnd ((sizes f).sum + f.len - 1) ≤ 1900 ∧ l.length ≤ i ∧ (∀ k ∈ l, k < ys.length) ∧ Aside0 (altC (codes f) l ys = R) ∧ Aside0 (CA lo pp s z b W w' v ws i f ys b') ∧ Aside0 (EN W w' pp pp b' e cap l))
  case atStart => exact ⟨0, kids, xs, b, none, 0, [], rfl, rfl, rfl, HPO.out, (by have := HNK.out; omega), Nat.le_refl _, HOK.out, HFI.out, (by have := HSE.out.1; have := HSZ.out; omega), (by have := HL.out; rw [HSE.out.1] at this; exact this), Nat.le_refl _, (fun k hk => by cases hk), HR, HS, ⟨EN.nil _ _ _ _ _⟩⟩
  case round =>
    clear HS HR HOK HFI HSE HL HSZ HPO
    obtain ⟨i, f, ys, b', e, cap, l, rfl, rfl, hfl, hfp, hin, hfz, hfok, hfit, hs1, hys, hll, hlk, HB0, HS, HE⟩ := hrel
    cases f with
    | nil => exact absurd hfp (by decide)
    | cons k' c' le' mo' nu' kids' rest =>
      obtain ⟨u, kb, hi, hkb, hcs, hfu, hnext⟩ := HS.out.next
      have hA2 : A = some ⟨kb, 0, none⟩ := by rw [← HA.out, hkb]; rfl
      obtain ⟨k, rfl⟩ : ∃ k, gk = k + 1 := ⟨gk - 1, by omega⟩
      have hrl : rest.len = k := by have : rest.len + 1 = k + 1 := hfl; omega
      have hszs : kids'.sz < kids.sz ∧ rest.sz ≤ kids.sz := by have : kids'.sz + rest.sz + 1 ≤ kids.sz := hfz; omega
      have hgr := codes_gr (.cons k' c' le' mo' nu' kids' rest) hfok hfit
      obtain ⟨g0, g1, g2⟩ := hgr
      have hr0 := grl_nn g2
      obtain ⟨hk0, hk1, hk2⟩ := hfok
      obtain ⟨hq0, hq1, hq2⟩ := hfit
      have hsum : (sizes (.cons k' c' le' mo' nu' kids' rest)).sum = szOf k' le' mo' nu' (sumP kids' 0) kids'.len + (sizes rest).sum := List.sum_cons
      have hlen : (Pt.cons k' c' le' mo' nu' kids' rest).len = rest.len + 1 := rfl
      rw [hsum, hlen] at hs1 hys
      have hcall := HHI.out k' c' le' mo' nu' kids' hszs.1 ⟨hk0, hk1, trivial⟩ ⟨hq0, hq1, trivial⟩ (by omega)
      unfold CodeC at hcall
      dsimp only at hcall
      have hg := g0 (by omega)
      obtain ⟨fc, hfc⟩ : ∃ y, code1 k' c' le' mo' (codes kids') = y := ⟨_, rfl⟩
      have hb := HB0.out
      unfold codes at hb
      rw [hfc] at hcall hg hb
      obtain ⟨z', hz'⟩ : ∃ y, szOf k' le' mo' nu' (sumP kids' 0) kids'.len = y := ⟨_, rfl⟩
      rw [hz'] at hcall hg hs1 hys g1
      have HCALL := Aside0.mk hcall
      have HC := Aside0.mk hcs
      have HFU := Aside0.mk hfu
      have HNX := Aside0.mk hnext
      have hiN : i < N := by omega
      have i0 : (0 : Int) ≤ (i : Int) := by omega
      have i1 : (i : Int) < (N : Int) := by omega
      have d0 : decide ((i : Int) < (N : Int)) = true := decide_eq_true i1
      have d1 : decide (i < N) = true := decide_eq_true hiN
      clear hcs hfu hnext HB0 hi hk0 hk1 hkb hfl hfp hcall g0 g2 hsum hlen hz' hq0 hq1 hfz hfc
      subst hA2
      cases rest with
      | nil =>
        have hk0 : k = 0 := hrl.symm
        subst hk0
        have d2 : ((i : Int) == (N : Int) - 1) = true := beq_iff_eq.2 (by omega)
        have hL0 : (Pt.nil).len = 0 := rfl
        have hS0 : (sizes .nil).sum = 0 := rfl
        rw [hL0, hS0] at hys hs1
        have hln : ys.length + bnd z' ≤ 1900 := by unfold bnd at hys ⊢; omega
        have HLN := Aside0.mk hln
        have hgy := hg ys
        have hb2 : (l, fc ys) = R := hb
        have hlast : (∀ x ∈ l, x < (fc ys).length) ∧ (fc ys).length ≤ 1900 := ⟨fun x hx => by have := hlk x hx; omega, by omega⟩
        have HMEM := Aside0.mk hlast
        have HTT : Aside0 (patchA (l.drop 0) (fc ys) = total) := ⟨by rw [← HT.out, ← hb2]; rfl⟩
        have hl5 : l.length ≤ 301 := by omega
        clear hlast hb hb2 hgy hg hlk hln hys hs1 hL0 hS0 hr0 hk2 hq2 hszs hll hrl HT g1
        go_wp2_with (first
          | (go_at_call 36; (with_reducible refine (HCALL.out lo pp s z ys b' u _ HS3.out.ps HS3.out.lp HS3.out.lb (Nat.le_trans HS3.out.lw HS3.out.ch.size) HF3.out HLN.out).mono ?_); rintro e9 w5 ⟨b2, rfl, hp, hc⟩; have HS5 := Aside0.mk (HS3.out.step hp hc); have HE5 := Aside0.mk (HE3.out.step hc); clear hp hc)
          | ((with_reducible refine gate_load (t := 67) (p := 6) rfl ?_); refine load_pt rfl 6 rfl _ rfl u HV3.out ?_)
          | ((with_reducible refine gate_storeT (t := 67) (p := 6) rfl ?_); refine store_pt rfl 6 _ rfl _ rfl PV.nil u rfl HV2.out.1 ?_; intro w4 hc hm; have HV3 := Aside0.mk hc; have hbl := (hm.below HV2.out.2.1 (by have := HV2.out.2.2; omega) (by have := HV2.out.2.1.size; omega)); have HS3 := Aside0.mk (HNX.out.call hbl); have HE3 := Aside0.mk (HE.out.step (Ch.of_below hbl)); have HF3 : Aside0 (FV w4 (fun k => k < lo) (.cons k' c' le' mo' nu' kids' .nil) [u]) := ⟨HFU.out.move fun z _ hz => hbl.block z hz⟩; clear hc hm hbl)
          | ((with_reducible refine gate_alloc (t := 67) (d := 6) rfl rfl ?_); refine alloc_pt rfl rfl rfl ?_; intro r5 w3 hg1 hc1 hb1; have HV2 : Aside0 (VAt w3 r5 67 PV.nil.cells ∧ Below wr.heap.size wr w3 ∧ r5 = wr.heap.size) := ⟨hc1, hb1, hg1⟩; clear hg1 hc1 hb1)
          | ((with_reducible refine gate_load (t := 67) (p := 15) rfl ?_); refine load_ptc rfl 15 rfl kb (i * 9) rfl u HC.out ?_))
        go_loopg [61] l.length (fun kq v61 w' => ∃ (q : Nat) (zs : List ST) (bz : Option Nat), v61 = .int .i64 (q : Int) ∧ q + kq = l.length ∧ (∀ x ∈ l, x < zs.length) ∧ zs.length ≤ 1900 ∧ Aside0 (patchA (l.drop q) zs = total) ∧ Aside0 (CA lo pp s z b W w' v ws (i + 1) .nil zs bz) ∧ Aside0 (EN W w' pp pp bz e cap l))
        case atStart => exact ⟨0, fc ys, b2, rfl, by omega, HMEM.out.1, HMEM.out.2, HTT, HS5, HE5⟩
        case round =>
          clear HTT HMEM
          obtain ⟨q, zs, bz, rfl, hqn, hmem, hzl, HB9, HS9, HE9⟩ := hrel
          cases gk with
          | zero =>
            have t1 : decide ((q : Int) < (l.length : Int)) = false := decide_eq_false (by omega)
            have t2 : decide (q < l.length) = false := decide_eq_false (by omega)
            have hb9 := HB9.out
            rw [List.drop_of_length_le (by omega)] at hb9
            have HBF := Aside0.mk hb9
            clear hb9 hmem hqn HB9
            go_wp2
            (try simp only [Exit.inBlock, Exit.then])
            go_end0
            exact ⟨bz, rfl, by rw [← HBF.out]; exact HS9.out.ps, HS9.out.ch⟩
          | succ k9 =>
            have hql : q < l.length := by omega
            have t1 : decide ((q : Int) < (l.length : Int)) = true := decide_eq_true (by omega)
            have t2 : decide (q < l.length) = true := decide_eq_true hql
            have t3 : (0 : Int) ≤ (q : Int) := by omega
            have t4 : (q : Int) < (l.length : Int) := by omega
            obtain ⟨eb, heb, kc9⟩ := HE9.out.at_ (List.getElem?_eq_getElem hql)
            obtain ⟨K9, hK9⟩ : ∃ K, l[q] = K := ⟨_, rfl⟩
            rw [hK9] at kc9
            have hKz : K9 < zs.length := hmem K9 (hK9 ▸ List.getElem_mem hql)
            obtain ⟨ZL, hZL⟩ : ∃ n, zs.length = n := ⟨_, rfl⟩
            have HS10 := Aside0.mk (HS9.out.call (below_drew1 (Below.refl _ _)))
            obtain ⟨sb9, cap9, p1, p2, ⟨ov9, p3⟩, p4, p5, p6⟩ := PS.pokeA HS10.out.ps (i := K9) hKz (zs.length : Int)
            have HS11 := Aside0.mk (HS10.out.step p5 p6)
            have HE11 := Aside0.mk ((HE9.out.keep (w' := wr.drew) (fun _ _ => rfl) (Nat.le_refl _)).step p6)
            rw [hZL] at p2 HS11 HE11
            have r2 : wr.cell? ⟨pp, 2, none⟩ = some (.slice (some ⟨sb9, 0, none⟩) ZL cap9) := p2
            have r3' : wr.cell? ⟨sb9, K9 * 7 + 5, none⟩ = some ov9 := p3
            have r4 : wr.frozen? ⟨sb9, K9 * 7 + 5, none⟩ = false := p4
            have r5' : (0 : Int) ≤ (K9 : Int) := by omega
            have r6 : (K9 : Int) < (ZL : Int) := by omega
            have r7 : K9 < ZL := by omega
            have hb9 := HB9.out
            rw [List.drop_eq_getElem_cons hql, hK9] at hb9
            have hb10 : patchA (l.drop (q + 1)) (setA zs K9 (zs.length : Int)) = total := hb9
            rw [hZL] at hb10
            have HB10 := Aside0.mk hb10
            have hfin9 : q + 1 + k9 = l.length ∧ (∀ x ∈ l, x < (setA zs K9 (ZL : Int)).length) ∧ (setA zs K9 (ZL : Int)).length ≤ 1900 := ⟨by omega, fun x hx => by rw [setA_len]; exact hmem x hx, by rw [setA_len]; exact hzl⟩
            have HFIN9 := Aside0.mk hfin9
            have w8 : IntKind.i64.wrap ((q : Int) + 1) = (q : Int) + 1 := by rw [IntKind.wrap_i64]; omega
            clear p1 p2 p3 p4 p5 p6 hb9 hb10 hfin9 hmem hqn HB9 hK9 hZL hKz hzl
            subst heb
            go_wp2
            go_region
            all_goals (
              go_wp2
              go_roundg k9
              case measure => omega
              case rel => exact ⟨q + 1, setA zs K9 (ZL : Int), bz, rfl, HFIN9.out.1, HFIN9.out.2.1, HFIN9.out.2.2, HB10, HS11, HE11⟩)
      | cons k2 c2 le2 mo2 nu2 kids2 rest2 =>
        obtain ⟨rest, hrest⟩ : ∃ r, Pt.cons k2 c2 le2 mo2 nu2 kids2 rest2 = r := ⟨_, rfl⟩
        have hbc : altC (codes rest) (l ++ [(fc (splitA ys)).length]) (setB (fc (splitA ys) ++ [⟨4, C4.nil, 0, 0⟩]) ys.length (((fc (splitA ys)).length : Int) + 1)) = R := by
          rw [← hrest, ← hb]
          unfold codes
          rw [altC]
        have hrp : 0 < rest.len := by rw [← hrest]; exact Nat.succ_pos _
        rw [hrest] at hrl hszs hr0 hk2 hq2 hs1 hys HNX
        obtain ⟨N2, hN2⟩ : ∃ N2, ys.length = N2 := ⟨_, rfl⟩
        have HN := Aside0.mk hN2
        have hgy := hg (splitA ys)
        rw [splitA_len, hN2] at hgy
        obtain ⟨M, hM⟩ : ∃ M, (fc (splitA ys)).length = M := ⟨_, rfl⟩
        have HM := Aside0.mk hM
        rw [hM] at hgy
        rw [hM, hN2] at hbc
        have HBC := Aside0.mk hbc
        have hyl : ys.length ≤ 2000 ∧ ys.length + 1 + bnd z' ≤ 1900 ∧ M ≤ 1899 := ⟨by omega, by unfold bnd at hys ⊢; omega, by unfold bnd at hgy hys; omega⟩
        have HYL := Aside0.mk hyl
        have d2 : ((i : Int) == (N : Int) - 1) = false := beq_eq_false_iff_ne.2 (by omega)
        have w3 : IntKind.i64.wrap ((N2 : Int) + 1) = (N2 : Int) + 1 := by rw [IntKind.wrap_i64]; omega
        have n0 : (0 : Int) ≤ (N2 : Int) := by omega
        have n1 : (N2 : Int) < (N2 : Int) + 1 := by omega
        have w2 : IntKind.i64.wrap ((i : Int) + 1) = (i : Int) + 1 := by rw [IntKind.wrap_i64]; omega
        have hL2 : l.length ≤ 2000 := by omega
        have HL2 := Aside0.mk hL2
        obtain ⟨zs, hzs⟩ : ∃ y, setB (fc (splitA ys) ++ [⟨4, C4.nil, 0, 0⟩]) N2 ((M : Int) + 1) = y := ⟨_, rfl⟩
        have hzl : zs.length = M + 1 := by rw [← hzs, setB_len, List.length_append, hM]; rfl
        rw [hzs] at HBC
        have hfin : rest.len = k ∧ 0 < rest.len ∧ i + 1 + k = N ∧ rest.sz ≤ kids.sz ∧ rest.ok ∧ rest.fit ∧ (sizes rest).sum + rest.len - 1 ≤ 300 ∧ zs.length + bnd ((sizes rest).sum + rest.len - 1) ≤ 1900 ∧ (l ++ [M]).length ≤ i + 1 ∧ (∀ k ∈ l ++ [M], k < zs.length) := ⟨hrl, hrp, by omega, hszs.2, hk2, hq2, by omega, by rw [hzl]; unfold bnd at hgy hys ⊢; omega, by simp; exact hll, fun q hq => by
          rw [hzl]
          rcases List.mem_append.1 hq with hq | hq
          · have := hlk q hq; omega
          · have : q = M := by simpa using hq
            omega⟩
        have HFIN := Aside0.mk hfin
        have HZS := Aside0.mk hzs
        have hNM : N2 + 1 ≤ M := hgy.1
        clear hbc hN2 hM hyl hL2 hfin hzs hzl hrp hrl hszs hr0 hk2 hq2 hs1 hys hb hgy hg hll hlk hrest g1 hin
        go_upto_region 8 with (first
          | (go_at_call 37; (with_reducible refine (put.calls pp ⟨3, C4.nil, 0, 0⟩ s z ys b' _ HS3.out.ps HYL.out.1).mono ?_); rintro e9 w5 ⟨b3, rfl, hp, hc⟩; have hpk := PS.pokeA hp (i := ys.length) (by simp) ((ys.length : Int) + 1); have HS4 := Aside0.mk (HS3.out.step hp hc); have HE4 := Aside0.mk (HE3.out.step hc); have HV4 := Aside0.mk (HV3.out.step hc); have HF4 := Aside0.mk (HS3.out.keep hc HF3.out); obtain ⟨sb, scap, f1, f2, ⟨ov, f3⟩, f4, f5, f6⟩ := hpk; have HS5 := Aside0.mk (HS4.out.step f5 f6); have HE5 := Aside0.mk (HE4.out.step f6); have HV5 := Aside0.mk (HV4.out.step f6); have HF5 := Aside0.mk (HS4.out.keep f6 HF4.out); rw [splitA_of] at HS5; rw [List.length_append, HN.out] at f2; rw [HN.out] at f3 f4 HS5 HE5 HV5 HF5; have hret := HN.out; rw [hret]; clear hp hc f5 f6 hret)
          | ((with_reducible refine gate_build (t := 76) rfl ?_); refine build_sk rfl 3 rfl ?_)
          | ((with_reducible refine gate_storeT (t := 67) (p := 6) rfl ?_); refine store_pt rfl 6 _ rfl _ rfl PV.nil u rfl HV2.out.1 ?_; intro w4 hc hm; have hbl := (hm.below HV2.out.2.1 (by have := HV2.out.2.2; omega) (by have := HV2.out.2.1.size; omega)); have HV3 : Aside0 (V3 w4 r5 u b' pp) := ⟨⟨hc, (fun e2 => by have := HS.out.ps.lt; have := HV2.out.2.2; omega), (fun e2 => by have := HS.out.ps.blt e2; have := HV2.out.2.2; omega)⟩⟩; have HS3 := Aside0.mk (HNX.out.call hbl); have HE3 := Aside0.mk (HE.out.step (Ch.of_below hbl)); have HF3 : Aside0 (FV w4 (fun k => k < lo) (.cons k' c' le' mo' nu' kids' .nil) [u]) := ⟨HFU.out.move fun z _ hz => hbl.block z hz⟩; clear hc hm hbl)
          | ((with_reducible refine gate_alloc (t := 67) (d := 6) rfl rfl ?_); refine alloc_pt rfl rfl rfl ?_; intro r5 w3 hg1 hc1 hb1; have HV2 : Aside0 (VAt w3 r5 67 PV.nil.cells ∧ Below wr.heap.size wr w3 ∧ r5 = wr.heap.size) := ⟨hc1, hb1, hg1⟩; clear hg1 hc1 hb1)
          | ((with_reducible refine gate_load (t := 67) (p := 15) rfl ?_); refine load_ptc rfl 15 rfl kb (i * 9) rfl u HC.out ?_))
        obtain ⟨w6, hw6⟩ : ∃ w6, w5.setCell ⟨sb, N2 * 7 + 5, none⟩ (.int .i64 ((N2 : Int) + 1)) = w6 := ⟨_, rfl⟩
        rw [hw6]
        have hs6 := HS5.out
        have he6 := HE5.out
        have hv6 := HV5.out
        have hf6 := HF5.out
        rw [hw6] at hs6 he6 hv6 hf6
        have HS6 := Aside0.mk hs6
        have HE6 := Aside0.mk he6
        have HV6 := Aside0.mk hv6
        have HF6 := Aside0.mk hf6
        clear hs6 he6 hv6 hf6 hw6 f2 f3 f4 HS5 HE5 HV5 HF5 HS4 HE4 HV4 HF4 HS3 HE3 HV3 HF3 HV2
        go_upto_region 10 with (first
          | ((with_reducible refine gate_app rfl ?_); refine append_int rfl _ _ rfl _ l.length (intsV l) rfl HJ1.out ⟨w8.heap.size, 0, none⟩ (.int .i64 (M : Int)) rfl HJ2.out rfl HL2.out ?_; intro x w10 g1 g2 g3; obtain ⟨e', cap', hx9, hen, hcd⟩ := HJ3.out x w10 g1 g2 g3; have hx8 : x = .slice (e'.map fun g => ⟨g, 0, none⟩) (l.length + 1) cap' := hx9; subst hx8; have HE9 := Aside0.mk hen; have HS9 := Aside0.mk hcd; clear g1 g2 g3 hx9 hen hcd)
          | ((with_reducible refine gate_row (t := 30) (n := 1) rfl ?_); refine row_int rfl _ rfl (M : Int) rfl ?_; intro nb w9 hn1 hw1; obtain ⟨j1, j2, j3⟩ := HE8.out.joinA HS8.out M hw1; have HJ1 := Aside0.mk j1; have HJ2 := Aside0.mk j2; have HJ3 := Aside0.mk j3; subst hn1; clear hw1 j1 j2 j3)
          | (go_at_call 37; (with_reducible refine (put.calls pp ⟨4, C4.nil, 0, 0⟩ s z (fc (splitA ys)) b4 _ HS7.out.ps (by rw [HM.out]; have := HYL.out.2.2; omega)).mono ?_); rintro e9 w8 ⟨b5, rfl, hp, hc⟩; have HS8 := Aside0.mk (HS7.out.step hp hc); have HE8 := Aside0.mk (HE7.out.step hc); have hret := HM.out; rw [hret]; clear hp hc hret)
          | ((with_reducible refine gate_build (t := 76) rfl ?_); refine build_sk rfl 4 rfl ?_)
          | (go_at_call 36; (with_reducible refine (HCALL.out lo pp s z (splitA ys) b3 u _ HS6.out.ps HS6.out.lp HS6.out.lb (Nat.le_trans HS6.out.lw HS6.out.ch.size) HF6.out (by rw [splitA_len]; exact HYL.out.2.1)).mono ?_); rintro e9 w7 ⟨b4, rfl, hp, hc⟩; have HS7 := Aside0.mk (HS6.out.step hp hc); have HE7 := Aside0.mk (HE6.out.step hc); clear hp hc)
          | ((with_reducible refine gate_load (t := 67) (p := 6) rfl ?_); refine load_pt rfl 6 rfl _ rfl u HV6.out.at_ ?_))
        have HS10 := Aside0.mk (HS9.out.call (below_drew1 (Below.refl _ _)))
        obtain ⟨sb9, cap9, p1, p2, ⟨ov9, p3⟩, p4, p5, p6⟩ := PS.pokeB HS10.out.ps (i := N2) (by rw [List.length_append, HM.out]; have := hNM; omega) ((M : Int) + 1)
        have HS11 := Aside0.mk (HS10.out.step p5 p6)
        have HE11 := Aside0.mk ((HE9.out.keep (w' := w10.drew) (fun _ _ => rfl) (Nat.le_refl _)).step p6)
        rw [HZS.out] at HS11
        rw [List.length_append, HM.out] at p2
        have r2 : w10.cell? ⟨pp, 2, none⟩ = some (.slice (some ⟨sb9, 0, none⟩) (M + 1) cap9) := p2
        have r3' : w10.cell? ⟨sb9, N2 * 7 + 6, none⟩ = some ov9 := p3
        have r4 : w10.frozen? ⟨sb9, N2 * 7 + 6, none⟩ = false := p4
        have r6 : (N2 : Int) < ((M + 1 : Nat) : Int) := by omega
        have r7 : N2 < M + 1 := by omega
        have r8 : (N2 : Int) < (M : Int) + 1 := by omega
        clear p1 p2 p3 p4 p5 p6
        go_region
        all_goals (
          go_wp2
          go_roundg k
          case measure => omega
          case rel => exact ⟨i + 1, rest, zs, b5, e', cap', l ++ [M], rfl, by rw [List.length_append]; rfl, HFIN.out.1, HFIN.out.2.1, HFIN.out.2.2.1, HFIN.out.2.2.2.1, HFIN.out.2.2.2.2.1, HFIN.out.2.2.2.2.2.1, HFIN.out.2.2.2.2.2.2.1, HFIN.out.2.2.2.2.2.2.2.1, HFIN.out.2.2.2.2.2.2.2.2.1, HFIN.out.2.2.2.2.2.2.2.2.2, HBC, HS11, HE11⟩)
end Go.Proofs.Ytclgnefeankbgaa.M
namespace Go.Proofs.Ytclgnefeankbgaa.M
open Go Go.RowKit Go.Proofs.YtclgnefeankbgaaW.PrintWords Go.Proofs.YtclgnefeankbgaaW.PrintLast Go.Proofs.YtclgnefeankbgaaW.PrintMore Hand
attribute [local go_sem] Oper.semAt_some max2_int min2_int max_two min_two max_three min_three max_four min_four
set_option linter.unusedVariables false
set_option linter.unusedSimpArgs false
theorem code_all : ∀ (n : Nat) (k : Int) (c : C4) (le mo : Int) (nu : Bool) (kids : Pt), kids.sz < n → (Pt.cons k c le mo nu kids .nil).ok → (Pt.cons k c le mo nu kids .nil).fit → szOf k le mo nu (sumP kids 0) kids.len ≤ 300 →
    CodeC 36 (fun v => .agg v.cells) (code1 k c le mo (codes kids)) (.cons k c le mo nu kids .nil) (bnd (szOf k le mo nu (sumP kids 0) kids.len))
  | 0, k, c, le, mo, nu, kids, hn, hok, hfit, hz => absurd hn (Nat.not_lt_zero _)
  | n + 1, k, c, le, mo, nu, kids, hn, hok, hfit, hz => by
    have hIH : KidsC kids := fun k' c' le' mo' nu' kids' h => code_all n k' c' le' mo' nu' kids' (by omega)
    have hk := hfit.1
    by_cases k0 : k = 0 ∨ k = 1 ∨ k = 2
    · refine CodeC.congr (code.leaf k c le mo nu kids (codes kids) k0) rfl ?_
      unfold szOf bnd
      rw [if_neg (by omega), if_neg (by omega), if_neg (by omega)]
      decide
    by_cases k3 : k = 3
    · subst k3
      have e : szOf 3 le mo nu (sumP kids 0) kids.len = sumP kids 0 := by
        unfold szOf
        rw [if_neg (by decide), if_neg (by decide), if_pos rfl]
      rw [e] at hz ⊢
      exact code.cat c le mo nu kids hIH hok.2.1 hfit.2.1 hz
    by_cases k4 : k = 4
    · subst k4
      have e : szOf 4 le mo nu (sumP kids 0) kids.len = sumP kids 0 + kids.len - 1 := by
        unfold szOf
        rw [if_pos rfl]
      rw [e] at hz ⊢
      exact code.rest 4 c le mo nu kids _ _ (.inl rfl) (fun _ => code.alt c le mo nu kids hIH hok.2.1 hfit.2.1 (hok.1.2.2.2.2.2.1 rfl) hz) (fun h => absurd h (by decide))
    · have k5 : k = 5 := by omega
      subst k5
      exact code.rest 5 c le mo nu kids _ _ (.inr rfl) (fun h => absurd h (by decide)) (fun _ => code.rep c le mo nu kids hIH hok hfit hz)
/-- What Parse tells: too large, wrong at a place, a pattern's size and steps. -/
inductive PR where
  | large
  | wrong (n : Nat)
  | ok (z : Int) (xs : List ST)
def parseR (s : ByteArray) (fold : Bool) : PR :=
  if 200 < s.size then .large else match readR s fold with
  | .bad n => .wrong n
  | .ok t _ => if 300 < (sizes t).headD 0 then .large else .ok ((sizes t).headD 0) ((codes t).headD id [] ++ [⟨5, C4.nil, 0, 0⟩])
def PaPost (W : World) (s : ByteArray) (r : PR) (e : Ending) (w' : World) : Prop := match r with
  | .large => e = .returned (.tuple #[.pointer none, .int .i64 0, .int .i64 3]) ∧ Below W.heap.size W w'
  | .wrong n => e = .returned (.tuple #[.pointer none, .int .i64 (n : Int), .int .i64 2]) ∧ Below W.heap.size W w'
  | .ok z xs => ∃ g b, e = .returned (.tuple #[.pointer (some ⟨g, 0, none⟩), .int .i64 0, .int .i64 0]) ∧ PS w' g s z xs b ∧ W.heap.size ≤ g ∧ (∀ k, b = some k → W.heap.size ≤ k) ∧ Below W.heap.size W w'
section
variable {ops : Array Oper} {rest : List Oper} {o : Oper} {a : Act} {Q : Exit → Act → World → Prop} {w : World}
theorem build_pa (hg : o.guard = none) (x y : Operand) (hop : o.op = .build 72 #[(0, x), (1, y)]) (s : ByteArray) (z : Int) (hx : a.eval x = .string s) (hy : a.eval y = .int .i64 z) (hK : wpList Try.prog ops Q rest (a.put o.dst (.agg #[.string s, .int .i64 z, .slice none 0 0])) w) : wpList Try.prog ops Q (o :: rest) a w := by
  have hb : Try.prog.built 72 [(0, .string s), (1, .int .i64 z)] = some #[.string s, .int .i64 z, .slice none 0 0] := by kernel_rfl
  refine wpList_build hg 72 _ hop ?_ ?_
  · simp only [List.map_toArray, List.map_cons, List.map_nil, hx, hy, hb]; rfl
  · simp only [List.map_toArray, List.map_cons, List.map_nil, hx, hy, hb, Option.getD_some]; exact hK
theorem box_pa (hg : o.guard = none) {d : Tmp} (hd : o.dst = some d) (x : Operand) (hop : o.op = .box 72 x) (s : ByteArray) (z : Int) (hx : a.eval x = .agg #[.string s, .int .i64 z, .slice none 0 0]) (hK : ∀ g w', g = w.heap.size → PS w' g s z [] none → Below w.heap.size w w' → wpList Try.prog ops Q rest (a.put o.dst (.pointer (some ⟨g, 0, none⟩))) w') : wpList Try.prog ops Q (o :: rest) a w := by
  refine box_event hg hd (cs := #[.string s, .int .i64 z, .slice none 0 0]) (t := 72) ?_ (fun g hgs w1 hb hbl => hK g w1 hgs ⟨⟨0, hb, ⟨rfl, .inl ⟨rfl, rfl⟩⟩⟩, fun h => by cases h⟩ hbl)
  have hrun : (Instr.box 72 (.agg #[.string s, .int .i64 z, .slice none 0 0])).run Try.prog w = .ok (.pointer (some ⟨w.heap.size, 0, none⟩)) (w.alloc (.cells #[.string s, .int .i64 z, .slice none 0 0] 72)) := by
    simp [Instr.box, newVar, newRow, Value.cells, go_sem]
  simp [execOp, hop, hx, Result.andThen, hrun]
end
theorem PS.c1 {W : World} {pp : Nat} {s : ByteArray} {z : Int} {xs : List ST} {b : Option Nat} (h : PS W pp s z xs b) : W.cell? ⟨pp, 1, none⟩ = some (.int .i64 z) := by
  obtain ⟨⟨cap, h1, _⟩, _⟩ := h
  exact (blk_cell h1 1).trans rfl
theorem Ch.below {N pp : Nat} {W A B : World} {b : Option Nat} (h : Ch pp none A B b) (hA : Below N W A) (hN : N ≤ pp) (hW : N ≤ W.heap.size) : Below N W B ∧ ∀ k, b = some k → N ≤ k := by
  have hs := hA.size
  refine ⟨⟨h.os.trans hA.os, h.tape.trans hA.tape, h.output.trans hA.output, Nat.le_trans hA.size h.size, fun k hk => (h.block k (by omega) (by omega) (fun e => by cases e)).trans (hA.block k hk)⟩, fun k hk => ?_⟩
  rcases h.own with ho | ho
  · rw [ho] at hk; cases hk
  · have := ho k hk; omega
set_option maxHeartbeats 8000000 in
set_option maxRecDepth 100000 in
theorem Parse.calls (s : ByteArray) (fold : Bool) (W : World) (hs : s.size ≤ 9223372036854775807) : Calls Try.prog 10 #[.string s, .bool fold] W fun e w' => PaPost W s (parseR s fold) e w' := by
  obtain ⟨r, hr⟩ : ∃ r, parseR s fold = r := ⟨_, rfl⟩
  rw [hr]
  unfold parseR at hr
  by_cases c1 : 200 < s.size
  · rw [if_pos c1] at hr
    subst hr
    have d1 : decide ((200 : Int) < (s.size : Int)) = true := decide_eq_true (by omega)
    have d2 : decide (200 < s.size) = true := decide_eq_true c1
    clear hs
    go_enter Try.func10, Try.ntmps10
    go_wp2
    (try simp only [Exit.inBlock, Exit.then])
    refine bodyPost_ret (results_tmp3 rfl _ _ _) rfl ?_
    exact ⟨rfl, Below.refl _ _⟩
  rw [if_neg c1] at hr
  have d1 : decide ((200 : Int) < (s.size : Int)) = false := decide_eq_false (by omega)
  have d2 : decide (200 < s.size) = false := decide_eq_false c1
  have hrd := fun W' => read.calls s fold W' (by omega)
  have hgood := fun t q => readR_good (s := s) (fold := fold) (t := t) (q := q) (by omega)
  cases hR : readR s fold with
  | bad n =>
    rw [hR] at hr
    simp only at hr
    subst hr
    have HRD : Aside0 (∀ W', Calls Try.prog 34 #[.string s, .bool fold] W' fun e w' => e = .returned (.tuple #[.agg PV.nil.cells, .int .i64 (n : Int)]) ∧ Below W'.heap.size W' w') := ⟨fun W' => (hrd W').mono fun e w' h => by rw [hR] at h; exact h⟩
    have d3 : decide ((0 : Int) ≤ (n : Int)) = true := decide_eq_true (by omega)
    have d4 : (0 : Int) ≤ (n : Int) := by omega
    clear hrd hgood hs hR
    go_enter Try.func10, Try.ntmps10
    go_wp2_with (first
      | ((with_reducible refine gate_storeT (t := 67) (p := 7) rfl ?_); refine store_pt rfl 7 _ rfl _ rfl PV.nil PV.nil rfl HV2.out.1 ?_; intro w3 hc hm; have HB3 := Aside0.mk (hm.below HV2.out.2.1 (by have := HV2.out.2.2; omega) (by have := HV2.out.2.1.size; omega)); clear hc hm)
      | ((with_reducible refine gate_alloc (t := 67) (d := 7) rfl rfl ?_); refine alloc_pt rfl rfl rfl ?_; intro r5 w2 hg1 hc1 hb1; have HV2 : Aside0 (VAt w2 r5 67 PV.nil.cells ∧ Below w1.heap.size w1 w2 ∧ r5 = w1.heap.size) := ⟨hc1, hb1, hg1⟩; clear hg1 hc1 hb1)
      | (go_at_call 34; (with_reducible refine (HRD.out _).mono ?_); rintro e w1 ⟨rfl, hb⟩; have HB1 := Aside0.mk hb; clear hb))
    (try simp only [Exit.inBlock, Exit.then])
    refine bodyPost_ret (results_tmp3 rfl _ _ _) rfl ?_
    exact ⟨rfl, HB1.out.trans (HB3.out.mono HB1.out.size)⟩
  | ok t q =>
    rw [hR] at hr
    simp only at hr
    obtain ⟨hone, hok, hfit⟩ := hgood t q hR
    have HRD : Aside0 (∀ W', Calls Try.prog 34 #[.string s, .bool fold] W' fun e w' => ∃ v : PV, e = .returned (.tuple #[.agg v.cells, .int .i64 (-1)]) ∧ FV w' (fun b => W'.heap.size ≤ b) t [v] ∧ Below W'.heap.size W' w') := ⟨fun W' => (hrd W').mono fun e w' h => by rw [hR] at h; exact h⟩
    clear hrd hgood hs hR
    cases t with
    | nil => cases hone
    | cons k c le mo nu kids rest =>
      cases rest with
      | cons => cases hone
      | nil =>
        have hca := code_all (kids.sz + 1) k c le mo nu kids (Nat.lt_succ_self _) hok hfit
        have hsc := fun v W hfv => size.calls (kids.sz + 1) k c le mo nu kids v W (Nat.lt_succ_self _) hfv hok
        have hgr := (codes_gr _ hok hfit).1
        obtain ⟨z, hz⟩ : ∃ z, szOf k le mo nu (sumP kids 0) kids.len = z := ⟨_, rfl⟩
        rw [hz] at hca hgr
        simp only [hz] at hsc
        have e1 : (sizes (.cons k c le mo nu kids .nil)).headD 0 = z := hz
        have e2 : (codes (.cons k c le mo nu kids .nil)).headD id = code1 k c le mo (codes kids) := rfl
        rw [e1, e2] at hr
        have HSC := Aside0.mk hsc
        by_cases c2 : 300 < z
        · rw [if_pos c2] at hr
          subst hr
          have d3 : decide ((300 : Int) < z) = true := decide_eq_true c2
          clear hca hgr hsc hok hfit hone hz e1 e2
          go_enter Try.func10, Try.ntmps10
          go_wp2_with (first
            | ((with_reducible refine gate_box (t := 72) (d := 26) rfl rfl ?_); refine box_pa rfl rfl _ rfl s z rfl ?_; intro g w5 hg1 hps hb1; have HB5 := Aside0.mk hb1; have k1 := hps.c1; clear hg1 hps hb1)
            | ((with_reducible refine gate_build (t := 72) rfl ?_); refine build_pa rfl _ _ rfl s z rfl rfl ?_)
            | (go_at_call 35; (with_reducible refine (HSC.out v _ HF3.out).mono ?_); rintro e w4 ⟨rfl, hb⟩; have HB4 := Aside0.mk hb; clear hb)
            | ((with_reducible refine gate_load (t := 67) (p := 7) rfl ?_); refine load_pt rfl 7 rfl _ rfl v HV3.out ?_)
            | ((with_reducible refine gate_storeT (t := 67) (p := 7) rfl ?_); refine store_pt rfl 7 _ rfl _ rfl PV.nil v rfl HV2.out.1 ?_; intro w3 hc hm; have HV3 := Aside0.mk hc; have HB3 := Aside0.mk (hm.below HV2.out.2.1 (by have := HV2.out.2.2; omega) (by have := HV2.out.2.1.size; omega)); have HF3 := Aside0.mk ((HF1.out.move fun k _ hk => HB3.out.block k hk).mono (Y := fun _ => True) fun _ _ _ => trivial); clear hc hm)
            | ((with_reducible refine gate_alloc (t := 67) (d := 7) rfl rfl ?_); refine alloc_pt rfl rfl rfl ?_; intro r5 w2 hg1 hc1 hb1; have HV2 : Aside0 (VAt w2 r5 67 PV.nil.cells ∧ Below w1.heap.size w1 w2 ∧ r5 = w1.heap.size) := ⟨hc1, hb1, hg1⟩; clear hg1 hc1 hb1)
            | (go_at_call 34; (with_reducible refine (HRD.out _).mono ?_); rintro e w1 ⟨v, rfl, hf, hb⟩; have HB1 := Aside0.mk hb; have HF1 := Aside0.mk hf; clear hf hb))
          (try simp only [Exit.inBlock, Exit.then])
          refine bodyPost_ret (results_tmp3 rfl _ _ _) rfl ?_
          have s1 := HB1.out.size
          have s3 := HB3.out.size
          have s4 := HB4.out.size
          exact ⟨rfl, ((HB1.out.trans (HB3.out.mono s1)).trans (HB4.out.mono (by omega))).trans (HB5.out.mono (by omega))⟩
        · rw [if_neg c2] at hr
          have hcc := hca (by omega)
          unfold CodeC at hcc
          dsimp only at hcc
          have hg0 := hgr (by omega) []
          obtain ⟨ys, hys⟩ : ∃ y, code1 k c le mo (codes kids) [] = y := ⟨_, rfl⟩
          have hca2 := fun lo pp s z b v W a1 a2 a3 a4 a5 a6 => hcc lo pp s z [] b v W a1 a2 a3 a4 a5 a6
          rw [hys] at hca2 hr hg0
          subst hr
          have HCA := Aside0.mk hca2
          have hlen : ys.length ≤ 2000 ∧ ([] : List ST).length + bnd z ≤ 1900 := by
            have h0 : ([] : List ST).length = 0 := rfl
            unfold bnd at hg0 ⊢
            omega
          have HLE := Aside0.mk hlen
          have d3 : decide ((300 : Int) < z) = false := decide_eq_false c2
          clear hca hcc hca2 hgr hsc hok hfit hone hz e1 e2 hlen hg0 hys
          go_enter Try.func10, Try.ntmps10
          go_wp2_with (first
            | (go_at_call 37; (with_reducible refine (put.calls g ⟨5, C4.nil, 0, 0⟩ s z ys b6 _ HP6.out.1 HLE.out.1).mono ?_); rintro e w7 ⟨b7, rfl, hp, hc⟩; have HP7 := Aside0.mk hp; have HC7 := Aside0.mk (HP6.out.2.trans hc); clear hp hc)
            | ((with_reducible refine gate_build (t := 76) rfl ?_); refine build_sk rfl 5 rfl ?_)
            | (go_at_call 36; (with_reducible refine (HCA.out g g s z none v _ HP5.out.1 (Nat.le_refl _) (fun k hk => by cases hk) (Nat.le_of_lt HP5.out.1.lt) HF5.out HLE.out.2).mono ?_); rintro e w6 ⟨b6, rfl, hp, hc⟩; have HP6 := Aside0.mk (And.intro hp hc); clear hp hc)
            | ((with_reducible refine gate_load (t := 67) (p := 7) rfl ?_); refine load_pt rfl 7 rfl _ rfl v HV5.out ?_)
            | ((with_reducible refine gate_box (t := 72) (d := 26) rfl rfl ?_); refine box_pa rfl rfl _ rfl s z rfl ?_; intro g w5 hg1 hps hb1; have HB5 := Aside0.mk hb1; have k1 := hps.c1; have HP5 := Aside0.mk (And.intro hps hg1); have HV5 := Aside0.mk (HV4.out.move hb1); have HF5 : Aside0 (FV w5 (fun k => k < g) (.cons k c le mo nu kids .nil) [v]) := ⟨(HF4.out.mono (Y := fun k => k < g) fun k _ hk => by rw [hg1]; exact hk).move fun k hk _ => hb1.block k (by rw [hg1] at hk; exact hk)⟩; clear hg1 hps hb1)
            | ((with_reducible refine gate_build (t := 72) rfl ?_); refine build_pa rfl _ _ rfl s z rfl rfl ?_)
            | (go_at_call 35; (with_reducible refine (HSC.out v _ HF3.out).mono ?_); rintro e w4 ⟨rfl, hb⟩; have HB4 := Aside0.mk hb; have HV4 := Aside0.mk (HV3.out.move hb); have HF4 := Aside0.mk (HF3.out.move fun k _ hk => hb.block k hk); clear hb)
            | ((with_reducible refine gate_load (t := 67) (p := 7) rfl ?_); refine load_pt rfl 7 rfl _ rfl v HV3.out ?_)
            | ((with_reducible refine gate_storeT (t := 67) (p := 7) rfl ?_); refine store_pt rfl 7 _ rfl _ rfl PV.nil v rfl HV2.out.1 ?_; intro w3 hc hm; have HV3 := Aside0.mk hc; have HB3 := Aside0.mk (hm.below HV2.out.2.1 (by have := HV2.out.2.2; omega) (by have := HV2.out.2.1.size; omega)); have HF3 := Aside0.mk ((HF1.out.move fun k _ hk => HB3.out.block k hk).mono (Y := fun _ => True) fun _ _ _ => trivial); clear hc hm)
            | ((with_reducible refine gate_alloc (t := 67) (d := 7) rfl rfl ?_); refine alloc_pt rfl rfl rfl ?_; intro r5 w2 hg1 hc1 hb1; have HV2 : Aside0 (VAt w2 r5 67 PV.nil.cells ∧ Below w1.heap.size w1 w2 ∧ r5 = w1.heap.size) := ⟨hc1, hb1, hg1⟩; clear hg1 hc1 hb1)
            | (go_at_call 34; (with_reducible refine (HRD.out _).mono ?_); rintro e w1 ⟨v, rfl, hf, hb⟩; have HB1 := Aside0.mk hb; have HF1 := Aside0.mk hf; clear hf hb))
          (try simp only [Exit.inBlock, Exit.then])
          refine bodyPost_ret (results_tmp3 rfl _ _ _) rfl ?_
          have s1 := HB1.out.size
          have s3 := HB3.out.size
          have s4 := HB4.out.size
          have hg5 := HP5.out.2
          obtain ⟨q1, q2⟩ := HC7.out.below (((HB1.out.trans (HB3.out.mono s1)).trans (HB4.out.mono (by omega))).trans (HB5.out.mono (by omega))) (by omega) (Nat.le_refl _)
          exact ⟨g, b7, rfl, HP7.out, by omega, q2, q1⟩
end Go.Proofs.Ytclgnefeankbgaa.M
