/- The program's reader of a dump: the walk. Conditions: a text of at most 1000000 bytes; the library's variable MaxLen holds a number. -/
import Derived.Test.YtlilcbpcjmcfbaaDoorE81
import Derived.Lib.LazyBuf
import Derived.Lib.ConvBytes
import Derived.Test.YtlilcbpcjmcfbaaDoorDx4
import Derived.Laws.ResultCell
namespace Go.Proofs.YtlilcbpcjmcfbaaDoor.Pure
open Go.RowKit Go.Shelf Go.Proofs.YtlilcbpcjmcfbaaDoor.D Go.Proofs.YtlilcbpcjmcfbaaDoor.Hand Go.Proofs.YtlilcbpcjmcfbaaDoorW.PrintWords Go.Proofs.YtlilcbpcjmcfbaaDoorW.PrintLast Go.Proofs.YtlilcbpcjmcfbaaDoorW.PrintMore
attribute [local go_sem] Oper.semAt_some
set_option linter.unusedVariables false
/-- What the reader answers: its bytes and its number. -/
def UndB (s : ByteArray) (r1 : List Int) (r2 : Int) : Prop :=
  ∃ ls, isLin s ls ∧ ((undF [] ls = none ∧ r1 = [] ∧ r2 = 2) ∨ ∃ o, undF [] ls = some o ∧ isB o ∧ o.length ≤ 1600 ∧ ((strOfNums (dumpN o) = s ∧ r1 = o ∧ r2 = 0) ∨ (strOfNums (dumpN o) ≠ s ∧ r1 = [] ∧ r2 = 2)))
/-- Between two rounds. -/
def UI (w : World) (N : Nat) (pre : List ByteArray) (W : World) : Prop := ∃ o, undF [] pre = some o ∧ isB o ∧ o.length ≤ 1600 ∧ UB w N 0 o W
def UX (w : World) (N : Nat) (c : Code) (pre : List ByteArray) (W : World) : Prop := c = .ret ∧ undF [] pre = none ∧ ∃ o, UB w N 2 o W
theorem repl.calls (s : ByteArray) (t : ByteArray) (m : Int) (W : World) (hs : s.size ≤ 1000) (hm : W.cell? ⟨0, 0, none⟩ = some (.int .i64 m)) (ht : rmSp s = t) :
    Calls Tryd.prog 24 #[.string s, .string ⟨#[32]⟩, .string ⟨#[]⟩] W fun e w' => e = .returned (.string t) ∧ Below W.heap.size W w' := by
  subst ht
  exact Tryd.strings_ReplaceAll s ⟨#[32]⟩ ⟨#[]⟩ m W (by omega) hm (by decide) (by show s.size + Lib.countB s _ * 0 ≤ _; omega)
theorem unhB.calls (t : ByteArray) (W : World) (ht : t.size ≤ 1000000) (r1 : List Int) (r2 : Int) (h1 : (unhexS t).1 = r1) (h2 : (unhexS t).2 = r2) :
    Calls Tryd.prog 13 #[.string t] W fun e w' => ∃ A n c, e = .returned (.tuple #[.slice A n c, .int .i64 r2]) ∧ n = r1.length ∧ Kd.C (Kd.int .u8) w' A n r1 ∧ Below W.heap.size W w' := by
  subst h1
  subst h2
  obtain ⟨k, hk⟩ := (unhexB_ev t ht).rounds
  refine (bits_Unhex.calls k t _ _ W hk).mono ?_
  rintro e w' ⟨v0, rfl, hR, hb⟩
  obtain ⟨A, c, rfl⟩ := Kd.R_slice hR
  exact ⟨A, _, c, rfl, rfl, (Kd.R_reads' hR).2.2, hb⟩
def flatD : TypeDesc → Bool
  | .struct _ => false
  | .array _ _ => false
  | _ => true
theorem run_loadVar_one {P : Program} (w : World) (ty : TypeId) (a : Addr) (v : Value) (d : TypeDesc) (hu : P.underlying ty = some d) (hd : flatD d = true) (hc : w.cell? a = some v) : (loadVar ty a).run P w = .ok v w := by
  have hagg : (isAgg ty).run P w = .ok false w := by
    unfold isAgg
    rw [Sem.run_bind, run_underlying hu w]
    cases d <;> simp_all [flatD]
  simp [loadVar, Sem.run_bind, hagg, hc]
theorem results_cells {fn : Func} {p q : Tmp} {tp tq : TypeId} {P : Program} (h : fn.results = #[.cell p tp, .cell q tq]) (tmps : Array Value) (w : World) (a b : Addr) (u v : Value) (d1 d2 : TypeDesc)
    (hp : tmps.getD p undef = .pointer (some a)) (hq : tmps.getD q undef = .pointer (some b)) (ha : w.cell? a = some u) (hb : w.cell? b = some v)
    (hu1 : P.underlying tp = some d1) (hd1 : flatD d1 = true) (hu2 : P.underlying tq = some d2) (hd2 : flatD d2 = true) :
    (results fn tmps).run P w = .ok (.tuple #[u, v]) w := by
  have hp' : tmps[p]?.getD undef = .pointer (some a) := by simpa using hp
  have hq' : tmps[q]?.getD undef = .pointer (some b) := by simpa using hq
  simp [results, h, hp', hq', asAddr, run_loadVar_one w tp a u d1 hu1 hd1 ha, run_loadVar_one w tq b v d2 hu2 hd2 hb]
/-- Both answers are written: what was found, and that all is well. -/
theorem UB.good {w A : World} {N : Nat} {e : Int} {o : List Int} {v : Value} (h : UB w N e o A) (hrow : A.ownsRow N 5 1 v o.length (o.map (Value.int .u8))) :
    Boxed ((A.setCell ⟨N, 0, none⟩ v).setCell ⟨N + 1, 0, none⟩ (.int .i64 0)) N 22 v ∧ Boxed ((A.setCell ⟨N, 0, none⟩ v).setCell ⟨N + 1, 0, none⟩ (.int .i64 0)) (N + 1) 24 (.int .i64 0) ∧ ((A.setCell ⟨N, 0, none⟩ v).setCell ⟨N + 1, 0, none⟩ (.int .i64 0)).ownsRow N 5 1 v o.length (o.map (Value.int .u8)) ∧ Below N w ((A.setCell ⟨N, 0, none⟩ v).setCell ⟨N + 1, 0, none⟩ (.int .i64 0)) := by
  obtain ⟨b0, b1, _, hbl, hle⟩ := h
  have r1 := hrow.kept (grownBy_setCell' A N v) (.inr (b0.not_row (by decide) hrow).symm)
  have q1 := b1.other (B' := N) (by omega) v
  exact ⟨(b0.set v).other (B' := N + 1) (by omega) (.int .i64 0), q1.set (.int .i64 0), r1.kept (grownBy_setCell' _ (N + 1) (.int .i64 0)) (.inr (q1.not_row (by decide) r1).symm), (hbl.setCell (p := ⟨N, 0, none⟩) (Nat.le_refl _) _).setCell (p := ⟨N + 1, 0, none⟩) (by show N ≤ N + 1; omega) _⟩
theorem boxU {A B : World} {b : Nat} {t : TypeId} {v : Value} (h : Boxed A b t v) (hb : Below A.heap.size A B) : Boxed B b t v := (hb.block _ h.lt).trans h
theorem rowU {A B : World} {base : Nat} {e : TypeId} {size : Nat} {v : Value} {n : Nat} {xs : List Value} (h : A.ownsRow base e size v n xs) (hb : Below A.heap.size A B) : B.ownsRow base e size v n xs := by
  refine ⟨h.1, ?_⟩
  rcases h.2 with h2 | ⟨g, cap, cur, hu, hbg, hg, r⟩
  · exact .inl h2
  · exact .inr ⟨g, cap, cur, hu, hbg, by rw [hb.block g (h.lt g (by rw [hu]; rfl)).2]; exact hg, r⟩
theorem row_slice {A : World} {base : Nat} {e : TypeId} {size : Nat} {v : Value} {n : Nat} {xs : List Value} (h : A.ownsRow base e size v n xs) : ∃ av cv, v = .slice av n cv := by
  rcases h.2 with ⟨rfl, hz⟩ | ⟨g, cap, cur, rfl, _⟩
  · exact ⟨none, 0, by rw [hz]⟩
  · exact ⟨_, _, rfl⟩
theorem dumpo.calls (o : List Int) (av : Option Addr) (cv N : Nat) (W : World) (hrow : W.ownsRow N 5 1 (.slice av o.length cv) o.length (o.map (Value.int .u8))) (hb : isB o) (hl : o.length ≤ 1600) (q : ByteArray) (hq : strOfNums (dumpN o) = q) :
    Calls Tryd.prog 6 #[.slice av o.length cv] W fun e w' => e = .returned (.tuple #[.string q, .int .i64 0]) ∧ Below W.heap.size W w' := by
  subst hq
  have hR : Kd.R (Kd.int .u8) 5 W N (fun _ => True) (.slice av o.length cv) o := Kd.R_of_own (h1 := fun _ => rfl) hrow (fun _ _ => trivial)
  exact bdump.calls av cv o W (Kd.R_reads' hR).2.2 (Kd.R_reads' hR).2.1 hb hl
def numsB (s : ByteArray) : List Int := s.data.toList.map fun b => (b.toNat : Int)
theorem numsB_len (s : ByteArray) : (numsB s).length = s.size := by rw [numsB, List.length_map, ← Lib.size_eq]
theorem numsB_str (s : ByteArray) : strOfNums (numsB s) = s := (Lib.Lz.strOfNums_map s.data.toList).trans (Lib.mk_data s)
theorem conv_reads (W W' : World) (s : ByteArray) (h : ∀ j, j < s.size → W'.cell? ⟨W.heap.size, j, none⟩ = some (.int .u8 (s.data.toList.getD j 0).toNat)) (hs : s.size ≤ 1000000) : Kd.C (Kd.int .u8) W' (some ⟨W.heap.size, 0, none⟩) (numsB s).length (numsB s) := by
  refine Kd.C_of_reads (enc := Value.int .u8) (d := 0) (h1 := fun _ => rfl) ⟨rfl, by rw [numsB_len]; omega, fun _ => ⟨_, rfl, fun j hj => ?_⟩⟩
  rw [numsB_len] at hj
  have e : (⟨W.heap.size, 0, none⟩ : Addr).add j = ⟨W.heap.size, j, none⟩ := by unfold Addr.add; split <;> simp_all
  rw [e, h j hj]
  have hj2 : j < s.data.toList.length := by rw [← Lib.size_eq]; exact hj
  rw [List.getD_eq_getElem?_getD, List.getD_eq_getElem?_getD, numsB, List.getElem?_map, List.getElem?_eq_getElem hj2]
  rfl
theorem eqq.calls (q s : ByteArray) (W : World) (hq : q.size ≤ 1000000) (hs : s.size ≤ 1000000) (c1 c2 : Nat) (h1 : q.size ≤ c1) (h2 : s.size ≤ c2) (b : Bool) (hb : decide (q = s) = b) :
    Calls Tryd.prog 25 #[.slice (some ⟨W.heap.size, 0, none⟩) q.size c1, .slice (some ⟨(Lib.bytesWorld W 5 q).heap.size, 0, none⟩) s.size c2] (Lib.bytesWorld (Lib.bytesWorld W 5 q) 5 s) fun e w' => e = .returned (.bool b) ∧ Below W.heap.size W w' := by
  subst hb
  have e1 : (Lib.bytesWorld W 5 q).heap.size = W.heap.size + 1 := Lib.bytesWorld_size W _ q
  have k1 := conv_reads W (Lib.bytesWorld (Lib.bytesWorld W 5 q) 5 s) q (fun j hj => by rw [Lib.bytesWorld_old _ _ _ _ (by rw [e1]; show W.heap.size < _; omega)]; exact Lib.bytesWorld_cell W _ q j hj) hq
  have k2 := conv_reads (Lib.bytesWorld W 5 q) (Lib.bytesWorld (Lib.bytesWorld W 5 q) 5 s) s (fun j hj => Lib.bytesWorld_cell _ _ s j hj) hs
  have h := bytes_Equal.calls (some ⟨W.heap.size, 0, none⟩) c1 (numsB q) (some ⟨(Lib.bytesWorld W 5 q).heap.size, 0, none⟩) c2 (numsB s) _ _ k1 (by rw [numsB_len]; exact h1) k2 (by rw [numsB_len]; exact h2) rfl
  rw [numsB_len, numsB_len, numsB_str, numsB_str] at h
  refine h.mono ?_
  rintro e w' ⟨rfl, hd⟩
  refine ⟨?_, ?_⟩
  · congr 2
    by_cases c : q = s
    · subst c; simp
    · rw [decide_eq_false c]
      refine beq_eq_false_iff_ne.mpr fun e => c ?_
      rw [Lib.toList_data, Lib.toList_data] at e
      rw [← Lib.mk_data q, ← Lib.mk_data s, e]
  · exact (bytes_below (bytes_below (Below.refl _ W) (Nat.le_refl _) _ q) (by rw [e1]; omega) _ s).trans (hd.below.mono (by rw [Lib.bytesWorld_size, e1]; omega))
set_option maxRecDepth 100000 in
set_option maxHeartbeats 4000000 in
theorem bund.calls (s : ByteArray) (hs : s.size ≤ 1000000) (mx : Int) (w : World) (hmx : w.cell? ⟨0, 0, none⟩ = some (.int .i64 mx)) :
    Calls Tryd.prog 10 #[.string s] w fun e w' => ∃ v r1 r2, e = .returned (.tuple #[v, .int .i64 r2]) ∧ Kd.R (Kd.int .u8) 5 w' w.heap.size (fun _ => True) v r1 ∧ Below w.heap.size w w' ∧ UndB s r1 r2 := by
  have h0lt : 0 < w.heap.size := by
    rcases Nat.eq_zero_or_pos w.heap.size with h | h
    · simp [World.cell?, Array.getElem?_eq_none (show w.heap.size ≤ 0 by omega)] at hmx
    · exact h
  have HMX := Lib.hid hmx
  have HS := Lib.hid hs
  clear hmx hs
  obtain ⟨i0, hi, hz0, hz1, hz2⟩ := info_parts info5
  have HI := Lib.hid (And.intro hi (And.intro hz0 (And.intro hz1 hz2)))
  clear hi hz0 hz1 hz2
  refine (callsIn_wide (n := 3)).1 ?_
  refine callsIn_of_wp_marks Tryd.func10 rfl trivial ?_ rfl
  simp only [Tryd.ntmps10, List.size_toArray, List.length_cons, List.length_nil, Nat.reduceAdd, Nat.reduceSub, Array.replicate_succ, Array.replicate_zero, List.push_toArray, List.append_toArray, List.nil_append, List.cons_append]
  gi_wp2_with (refine ⟨trivial, ?_⟩; gi_at_call 23; refine (lines.in_ Fence.wide _ trivial rfl _ _).mono ?_; rintro e w' ⟨rfl, rfl⟩)
  obtain ⟨N, hN⟩ : ∃ N, w.heap.size = N := ⟨_, rfl⟩
  have hU0 : UB w N 0 [] ((((w.alloc (.cells #[.slice none 0 0] 22)).alloc (.cells #[.int .i64 0] 24)).alloc (.cells #[.slice none 0 0] 22)).alloc (.cells #[.string s] 9)) := by
    subst hN
    have k0 : Boxed (((w.alloc (.cells #[.slice none 0 0] 22)).alloc (.cells #[.int .i64 0] 24)).alloc (.cells #[.slice none 0 0] 22)) w.heap.size 22 (.slice none 0 0) := ((Boxed.new w _ _).alloc _).alloc _
    have k1 := ((Boxed.new (w.alloc (.cells #[.slice none 0 0] 22)) 24 (.int .i64 0)).alloc (.cells #[.slice none 0 0] 22)).alloc (.cells #[.string s] 9)
    have k2 := (Boxed.new ((w.alloc (.cells #[.slice none 0 0] 22)).alloc (.cells #[.int .i64 0] 24)) 22 (.slice none 0 0)).alloc (.cells #[.string s] 9)
    rw [World.size_alloc] at k1
    rw [World.size_alloc, World.size_alloc] at k2
    exact ⟨k0.alloc _, k1, ⟨_, k2, World.ownsRow_nil _ _ _ _⟩, ((((Below.refl _ w).alloc (Nat.le_refl _) _).alloc (by simp) _).alloc (by simp; omega) _).alloc (by simp; omega) _, rfl⟩
  have hN3 : Boxed ((((w.alloc (.cells #[.slice none 0 0] 22)).alloc (.cells #[.int .i64 0] 24)).alloc (.cells #[.slice none 0 0] 22)).alloc (.cells #[.string s] 9)) (N + 3) 9 (.string s) := by
    have := Boxed.new (((w.alloc (.cells #[.slice none 0 0] 22)).alloc (.cells #[.int .i64 0] 24)).alloc (.cells #[.slice none 0 0] 22)) 9 (.string s)
    rw [World.size_alloc, World.size_alloc, World.size_alloc, hN] at this
    exact this
  have hsz : ((((w.alloc (.cells #[.slice none 0 0] 22)).alloc (.cells #[.int .i64 0] 24)).alloc (.cells #[.slice none 0 0] 22)).alloc (.cells #[.string s] 9)).heap.size = N + 4 := by simp [hN]
  rw [show w.heap.size + 1 + 1 + 1 = N + 3 by omega, show w.heap.size + 1 + 1 = N + 2 by omega, show w.heap.size + 1 = N + 1 by omega, hN]
  generalize (((w.alloc (.cells #[.slice none 0 0] 22)).alloc (.cells #[.int .i64 0] 24)).alloc (.cells #[.slice none 0 0] 22)).alloc (.cells #[.string s] 9) = W0 at *
  refine range_st rfl (by omega) (gf := 35) (lb := #[.pointer (some ⟨N + 3, 0, none⟩)]) rfl trivial (enters_of Tryd.func35 (by kernel_rfl) rfl)
    (encs := fun y : ByteArray => #[.string y]) (Kp := LinKp (N + 3) 9) (St := LinSt (N + 3) 9) (S := isLin s) (Sp := fun pre => ∃ r, isLin s (pre ++ r)) (N := 1000000)
    ?seq (fun h k u hu => k u (h u hu)) ?kb (fun _ => rfl) ?st (UI w N) (UX w N) ?hI ?hIx ?hIs ?hIxs ?h0
    (fun x => { tmps := #[.string s, undef, .pointer (some ⟨N, 0, none⟩), .pointer (some ⟨N + 1, 0, none⟩), .pointer (some ⟨N + 2, 0, none⟩), .string x, undef, undef, undef, undef, .string s, .func (.func 35) #[] #[.pointer (some ⟨N + 3, 0, none⟩)], .string x, undef, undef, undef, undef, undef, undef, undef, undef, undef, undef, undef, undef, undef, undef, undef, undef, undef, undef, undef, undef, undef, undef, undef, undef, undef, undef, undef, undef, undef, undef, undef, undef, undef, undef, undef], defers := [] }) ?assign ?body ?done ?stop
  case seq =>
    intro l J Jx W hW _ _ hJs _ hY h0
    exact lines_1.in_ 2 (by omega) l (N + 3) s HS.out J Jx hJs hY W ((hW.block _ (by omega)).trans hN3) h0
  case kb =>
    intro W l o o' hl ho hc _ u hu
    have hne : N + 3 ≠ l := by
      intro e
      subst e
      rw [show W.heap[N + 3]? = _ from hu] at ho
      cases ho
      cases hc
    exact (World.putObj_heap_other hne).trans hu
  case st =>
    rintro A B (⟨u, v, _, rfl⟩ | rfl)
    · exact KeepsOthers.setCell _ _ _
    · exact KeepsOthers.drew _
  case hI =>
    rintro pre A B row ⟨o, hu, hob, hol, hU⟩ hg hr
    exact ⟨o, hu, hob, hol, hU.kept hg (fun r e => ⟨by have := (hr r e).1; omega, (hr r e).2⟩)⟩
  case hIx =>
    rintro c pre A B row ⟨hc, hu, o, hU⟩ hg hr
    exact ⟨hc, hu, o, hU.kept hg (fun r e => ⟨by have := (hr r e).1; omega, (hr r e).2⟩)⟩
  case hIs =>
    rintro pre A B ⟨o, hu, hob, hol, hU⟩ hs
    exact ⟨o, hu, hob, hol, hU.step hs⟩
  case hIxs =>
    rintro c pre A B ⟨hc, hu, o, hU⟩ hs
    exact ⟨hc, hu, o, hU.step hs⟩
  case h0 => exact ⟨[], rfl, isB_nil, by simp, hU0⟩
  case assign =>
    intro l x W K hK
    gi_wp2
    exact hK
  case body =>
    clear hU0 hN3
    rintro l pre x W ⟨o, hu, hob, hol, hU⟩ hlen
    have HU := Lib.hid hu
    have HOB := Lib.hid hob
    clear hu hob
    by_cases c54 : x.size < 54
    · have g1 : decide ((x.size : Int) < 54) = true := decide_eq_true (by omega)
      have g2 : decide (x.size < 54) = true := decide_eq_true c54
      have c2 := hU.b0.cell
      have f2 := hU.b0.frozen
      have c3 := hU.b1.cell
      have f3 := hU.b1.frozen
      have HST := Lib.hid (show undF [] (pre ++ [x]) = none by rw [undF_snoc HU.out, undStep, if_pos c54])
      gi_wp2
      exact ⟨(UK.bad (N := N)).1.from _, rfl, HST.out, _, hU.bad⟩
    · have g1 : decide ((x.size : Int) < 54) = false := decide_eq_false (by omega)
      have g2 : decide (x.size < 54) = false := decide_eq_false c54
      have g3 : (54 : Int) ≤ (x.size : Int) := by omega
      have g4 : 54 ≤ x.size := by omega
      have hmW : W.cell? ⟨0, 0, none⟩ = some (.int .i64 mx) := (hU.below.cell (p := ⟨0, 0, none⟩) (by show 0 < N; omega)).trans HMX.out
      have HMW := Lib.hid hmW
      obtain ⟨t, ht⟩ : ∃ t, rmSp (x.extract 6 54) = t := ⟨_, rfl⟩
      have HT := Lib.hid ht
      have HX := Lib.hid (show (x.extract 6 54).size ≤ 1000 by rw [ByteArray.size_extract]; omega)
      have HTS := Lib.hid (show t.size ≤ 1000000 by rw [← ht]; exact rmSp_size _ HX.out)
      obtain ⟨ys, hys⟩ : ∃ ys, (unhexS t).1 = ys := ⟨_, rfl⟩
      have HYS := Lib.hid hys
      have HYB := Lib.hid (show isB ys by rw [← hys]; exact unhexS_isB t)
      obtain ⟨v, hv, hrow⟩ := hU.b2
      obtain ⟨av, cv, rfl⟩ : ∃ av cv, v = .slice av o.length cv := by
        rcases hrow.2 with ⟨rfl, h⟩ | ⟨g, cap, cur, rfl, _⟩
        · exact ⟨none, 0, by rw [h]⟩
        · exact ⟨_, _, rfl⟩
      have HUB := Lib.hid hU
      have HV := Lib.hid hv
      have HROW := Lib.hid hrow
      clear hmW ht hys hU hv hrow
      rcases unhexS_cd t with hr2 | hr2
      · have HR2 := Lib.hid hr2
        clear hr2
        have HNY := Lib.hid (show ys.length ≤ 1000000 by
          have h1 := unhexS_len t
          rw [HYS.out] at h1
          have := HTS.out
          omega)
        have i9 : wrap64 ((o.length : Int) + (ys.length : Int)) = (o.length : Int) + (ys.length : Int) := w64 (by have := HNY.out; omega) (by have := HNY.out; omega)
        have i8 : IntKind.i64.wrap ((o.length : Int) + (ys.length : Int)) = (o.length : Int) + (ys.length : Int) := (i64_w _).trans i9
        by_cases c16 : 1600 < o.length + ys.length
        · have g5 : decide (1600 < (o.length : Int) + (ys.length : Int)) = true := decide_eq_true (by omega)
          have g6 : decide (1600 < o.length + ys.length) = true := decide_eq_true c16
          have HST := Lib.hid (show undF [] (pre ++ [x]) = none by rw [undF_snoc HU.out, undStep, if_neg c54, HT.out, HR2.out, HYS.out, if_neg (by omega)])
          clear hol c16
          gi_wp2_with (first
            | (refine ⟨trivial, ?_⟩; gi_at_call 24; refine (CallsIn.inRound l (callsIn_wide.2 (repl.calls _ t mx _ HX.out HMW.out HT.out))).mono ?_; rintro e W1 ⟨rfl, hb⟩; have HU1 := Lib.hid (HUB.out.move hb); have HK1 := Lib.hid (UK.below (N := N) hb); have HV1 := Lib.hid (boxU HV.out hb); have HROW1 := Lib.hid (rowU HROW.out hb); clear hb)
            | (refine ⟨trivial, ?_⟩; gi_at_call 13; refine (CallsIn.inRound l (callsIn_wide.2 (unhB.calls t _ HTS.out _ _ HYS.out HR2.out))).mono ?_; rintro e W2 ⟨A2, n2, cc2, rfl, rfl, hC2, hb⟩; have HC2 := Lib.hid hC2; have HU2 := Lib.hid (HU1.out.move hb); have HK2 := Lib.hid (HK1.out.trans (UK.below (N := N) hb)); have HV2 := Lib.hid (boxU HV1.out hb); have HROW2 := Lib.hid (rowU HROW1.out hb); have q4 := HV2.out.cell; have f4 := HV2.out.frozen; have q2 := HU2.out.b0.cell; have f2 := HU2.out.b0.frozen; have q3 := HU2.out.b1.cell; have f3 := HU2.out.b1.frozen; clear hb hC2))
          exact ⟨(HK2.out.trans (UK.bad (N := N))).1.from _, rfl, HST.out, _, HU2.out.bad⟩
        · have g5 : decide (1600 < (o.length : Int) + (ys.length : Int)) = false := decide_eq_false (by omega)
          have g6 : decide (1600 < o.length + ys.length) = false := decide_eq_false c16
          have HST := Lib.hid (show undF [] (pre ++ [x]) = some (o ++ ys) by rw [undF_snoc HU.out, undStep, if_neg c54, HT.out, HR2.out, HYS.out, if_pos ⟨rfl, by omega⟩])
          have HLE := Lib.hid (show o.length + ys.length ≤ 1600 by omega)
          clear hol c16
          gi_wp2_with (first
            | (refine ⟨trivial, ?_⟩; gi_at_call 24; refine (CallsIn.inRound l (callsIn_wide.2 (repl.calls _ t mx _ HX.out HMW.out HT.out))).mono ?_; rintro e W1 ⟨rfl, hb⟩; have HU1 := Lib.hid (HUB.out.move hb); have HK1 := Lib.hid (UK.below (N := N) hb); have HV1 := Lib.hid (boxU HV.out hb); have HROW1 := Lib.hid (rowU HROW.out hb); clear hb)
            | (refine ⟨trivial, ?_⟩; gi_at_call 13; refine (CallsIn.inRound l (callsIn_wide.2 (unhB.calls t _ HTS.out _ _ HYS.out HR2.out))).mono ?_; rintro e W2 ⟨A2, n2, cc2, rfl, rfl, hC2, hb⟩; have HC2 := Lib.hid hC2; have HU2 := Lib.hid (HU1.out.move hb); have HK2 := Lib.hid (HK1.out.trans (UK.below (N := N) hb)); have HV2 := Lib.hid (boxU HV1.out hb); have HROW2 := Lib.hid (rowU HROW1.out hb); have q4 := HV2.out.cell; have f4 := HV2.out.frozen; have q2 := HU2.out.b0.cell; have f2 := HU2.out.b0.frozen; have q3 := HU2.out.b1.cell; have f3 := HU2.out.b1.frozen; clear hb hC2)
            | (gi_at_builtin; refine wpListIn_append_rows _ rfl _ _ 22 rfl N 5 i0 Tryd.underlying22 HI.out.1 HI.out.2.1 HI.out.2.2.1 HI.out.2.2.2 _ o ys rfl HROW2.out A2 ys.length cc2 rfl HC2.out (by have := HLE.out; omega) HU2.out.leW ?_; intro v3 w3 hown hg; obtain ⟨k1, k2, k3⟩ := UB.joined HU2.out HV2.out HROW2.out hown hg; obtain ⟨av3, cv3, rfl⟩ := row_slice hown; rw [List.length_append] at k2 k3; have q5 := k1.cell; have f5 := k1.frozen; have HU3 := Lib.hid k2; have HK3 := Lib.hid (HK2.out.trans k3); clear k1 k2 k3 hown hg))
          exact ⟨HK3.out.1.from _, HK3.out.2, _, HST.out, isB_app HOB.out HYB.out, by rw [List.length_append]; exact HLE.out, HU3.out⟩
      · have HR2 := Lib.hid hr2
        clear hr2
        have HST := Lib.hid (show undF [] (pre ++ [x]) = none by rw [undF_snoc HU.out, undStep, if_neg c54, HT.out, HR2.out, if_neg (by omega)])
        gi_wp2_with (first
          | (refine ⟨trivial, ?_⟩; gi_at_call 24; refine (CallsIn.inRound l (callsIn_wide.2 (repl.calls _ t mx _ HX.out HMW.out HT.out))).mono ?_; rintro e W1 ⟨rfl, hb⟩; have HU1 := Lib.hid (HUB.out.move hb); have HK1 := Lib.hid (UK.below (N := N) hb); clear hb)
          | (refine ⟨trivial, ?_⟩; gi_at_call 13; refine (CallsIn.inRound l (callsIn_wide.2 (unhB.calls t _ HTS.out _ _ HYS.out HR2.out))).mono ?_; rintro e W2 ⟨A2, n2, c2, rfl, hn2, hC2, hb⟩; have HU2 := Lib.hid (HU1.out.move hb); have HK2 := Lib.hid (HK1.out.trans (UK.below (N := N) hb)); have q2 := HU2.out.b0.cell; have f2 := HU2.out.b0.frozen; have q3 := HU2.out.b1.cell; have f3 := HU2.out.b1.frozen; clear hb hC2 hn2))
        exact ⟨(HK2.out.trans (UK.bad (N := N))).1.from _, rfl, HST.out, _, HU2.out.bad⟩
  case done =>
    rintro D ls W hD hls ⟨o, hu, hob, hol, hU⟩ hK
    obtain ⟨v, hv, hrow⟩ := hU.b2
    obtain ⟨av, cv, rfl⟩ := row_slice hrow
    obtain ⟨q, hq⟩ : ∃ q, strOfNums (dumpN o) = q := ⟨_, rfl⟩
    have q4 := hv.cell
    have hcv : ∀ (W : World) (z : ByteArray), (convert 9 22 (.string z)).run Tryd.prog W = .ok (.slice (some ⟨W.heap.size, 0, none⟩) z.size (grownCap W z.size 0 5)) (Lib.bytesWorld W 5 z) := fun W z => Lib.run_convert_string_bytes (u := .string) W 9 22 5 z Tryd.underlying9 Tryd.underlying22 Tryd.underlying5
    have HQ := Lib.hid hq
    have HQS := Lib.hid (show q.size ≤ 1000000 by rw [← hq, strOfNums_size]; unfold dumpN; have := rowsN_len o ((o.length + 15) / 16); omega)
    have HUB := Lib.hid hU
    have HV := Lib.hid hv
    have HROW := Lib.hid hrow
    have HOB := Lib.hid hob
    have HOL := Lib.hid hol
    have HU := Lib.hid hu
    have HKD := Lib.hid hK
    have HLS := Lib.hid hls
    have HDD := Lib.hid hD
    clear hq hU hv hrow hob hol hu hK hls hD
    by_cases ce : q = s
    · have HE := Lib.hid (show decide (q = s) = true from decide_eq_true ce)
      have HCE := Lib.hid ce
      clear ce
      gi_wp2_with (first
      | (refine ⟨trivial, ?_⟩; gi_at_call 6; refine (callsIn_wide.2 (dumpo.calls o av cv N _ HROW.out HOB.out HOL.out q HQ.out)).mono ?_; rintro e W1 ⟨rfl, hb⟩; have HU1 := Lib.hid (HUB.out.move hb); have HB1 := Lib.hid hb; clear hb)
      | (refine ⟨trivial, ?_⟩; gi_at_call 25; refine (callsIn_wide.2 (eqq.calls q s _ HQS.out HS.out _ _ (grownCap_ge _ _ _ _) (grownCap_ge _ _ _ _) _ HE.out)).mono ?_; rintro e W2 ⟨rfl, hb⟩; have HB2 := Lib.hid (HB1.out.trans (hb.mono HB1.out.size)); have HU2 := Lib.hid (HUB.out.move HB2.out); have q2 := HU2.out.b0.cell; have f2 := HU2.out.b0.frozen; have q3 := HU2.out.b1.cell; have f3 := HU2.out.b1.frozen; have q4 := (boxU HV.out HB2.out).cell; clear hb))
      obtain ⟨k0, k1, kr, kb⟩ := HU2.out.good (rowU HROW.out HB2.out)
      have hK2 := (HB2.out.block _ (Array.getElem?_eq_some_iff.1 HKD.out).1).trans HKD.out
      have hK3 := ((UK.set (N := N) (A := W2) (b := N) (by omega) (.slice av o.length cv)).trans (UK.set (N := N) (b := N + 1) (by omega) (.int .i64 0))).1.same D _ hK2 rfl
      have hrw : ∀ r, (some D : Option Nat) = some r → N ≤ r := fun r e => by cases e; have := HDD.out; omega
      have kb2 := kb.grown (grownBy_putObj' _ D (.deferred none)) (by have := kb.size; omega) hrw
      have k02 := k0.kept (grownBy_putObj' _ D (.deferred none)) (fun e => by cases e; rw [show _ = _ from k0] at hK3; cases hK3)
      have k12 := k1.kept (grownBy_putObj' _ D (.deferred none)) (fun e => by cases e; rw [show _ = _ from k1] at hK3; cases hK3)
      have kr2 := ownsRow_putObj kr (.deferred none) hK3 rfl
      refine ⟨by simp, .inl ⟨_, _, rfl, run_takeDeferred hK3, ?_⟩⟩
      refine ⟨_, results_cells rfl _ _ ⟨N, 0, none⟩ ⟨N + 1, 0, none⟩ _ _ _ _ rfl rfl k02.cell k12.cell Tryd.underlying22 rfl Tryd.underlying24 rfl, .slice av o.length cv, o, 0, rfl, ?_, by rw [hN]; exact kb2, _, HLS.out, .inr ⟨o, HU.out, HOB.out, HOL.out, .inl ⟨by rw [HQ.out]; exact HCE.out, rfl, rfl⟩⟩⟩
      rw [hN]
      exact Kd.R_of_own (h1 := fun _ => rfl) kr2 (fun _ _ => trivial)
    · have HE := Lib.hid (show decide (q = s) = false from decide_eq_false ce)
      have HCE := Lib.hid ce
      clear ce
      gi_wp2_with (first
      | (refine ⟨trivial, ?_⟩; gi_at_call 6; refine (callsIn_wide.2 (dumpo.calls o av cv N _ HROW.out HOB.out HOL.out q HQ.out)).mono ?_; rintro e W1 ⟨rfl, hb⟩; have HU1 := Lib.hid (HUB.out.move hb); have HB1 := Lib.hid hb; clear hb)
      | (refine ⟨trivial, ?_⟩; gi_at_call 25; refine (callsIn_wide.2 (eqq.calls q s _ HQS.out HS.out _ _ (grownCap_ge _ _ _ _) (grownCap_ge _ _ _ _) _ HE.out)).mono ?_; rintro e W2 ⟨rfl, hb⟩; have HB2 := Lib.hid (HB1.out.trans (hb.mono HB1.out.size)); have HU2 := Lib.hid (HUB.out.move HB2.out); have q2 := HU2.out.b0.cell; have f2 := HU2.out.b0.frozen; have q3 := HU2.out.b1.cell; have f3 := HU2.out.b1.frozen; have q4 := (boxU HV.out HB2.out).cell; clear hb))
      have hK2 := (HB2.out.block _ (Array.getElem?_eq_some_iff.1 HKD.out).1).trans HKD.out
      have hK3 := (UK.bad (N := N) (A := W2)).1.same D _ hK2 rfl
      have hU3 := HU2.out.bad.kept (grownBy_putObj' _ D (.deferred none)) (fun r e => by cases e; exact ⟨by have := HDD.out; omega, _, hK3, rfl⟩)
      refine ⟨by simp, .inl ⟨_, _, rfl, run_takeDeferred hK3, ?_⟩⟩
      refine ⟨_, results_cells rfl _ _ ⟨N, 0, none⟩ ⟨N + 1, 0, none⟩ _ _ _ _ rfl rfl hU3.b0.cell hU3.b1.cell Tryd.underlying22 rfl Tryd.underlying24 rfl, .slice none 0 0, [], 2, rfl, Kd.R_nil _ _ _ _ _, by rw [hN]; exact hU3.below, _, HLS.out, .inr ⟨o, HU.out, HOB.out, HOL.out, .inr ⟨by rw [HQ.out]; exact HCE.out, rfl, rfl⟩⟩⟩
  case stop =>
    rintro D c pre W hD ⟨r, hr⟩ ⟨rfl, hu, o, hU⟩ hK
    have hU2 := hU.kept (grownBy_putObj' W D (.deferred none)) (fun r e => by cases e; exact ⟨by omega, _, hK, rfl⟩)
    gi_wp2
    refine ⟨by simp, .inl ⟨_, _, rfl, run_takeDeferred hK, ?_⟩⟩
    refine ⟨_, results_cells rfl _ _ ⟨N, 0, none⟩ ⟨N + 1, 0, none⟩ _ _ _ _ rfl rfl hU2.b0.cell hU2.b1.cell Tryd.underlying22 rfl Tryd.underlying24 rfl, .slice none 0 0, [], 2, rfl, Kd.R_nil _ _ _ _ _, by rw [hN]; exact hU2.below, _, hr, .inl ⟨undF_stop hu, rfl, rfl⟩⟩
end Go.Proofs.YtlilcbpcjmcfbaaDoor.Pure
