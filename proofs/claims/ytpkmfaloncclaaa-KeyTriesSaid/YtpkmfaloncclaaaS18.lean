/- What Try reads of bytes with a key, in plain Lean; a row of rows of bytes that a call makes; both sides' Make by the same answers. Conditions: as each theorem says. -/
import Derived.Test.YtpkmfaloncclaaaS12
import Derived.Test.YtpkmfaloncclaaaKx8
namespace Go.Proofs.Ytpkmfaloncclaaa.T
open Go Go.RowKit Go.Shelf Go.Proofs.Ytpkmfaloncclaaa.K Go.Proofs.Ytpkmfaloncclaaa.Pure Go.Proofs.YtpkmfaloncclaaaW.PrintWords Go.Proofs.YtpkmfaloncclaaaW.PrintLast Go.Proofs.YtpkmfaloncclaaaW.PrintMore Hand
set_option linter.unusedVariables false
/-- The bodies that are read from a number on. -/
inductive Reads (key : List Int) : Int → List Int → List (List Int) → Prop
  | stop {n : Int} {b : List Int} (h : (readA key n b).1.2.2.2 ≠ 0) : Reads key n b []
  | step {n : Int} {b : List Int} {kd : Int} {body : List Int} {m : Nat} {bs : List (List Int)} (h : readA key n b = ((kd, body, (m : Int), 0), n + 1)) (k : Reads key (n + 1) (b.drop m) bs) : Reads key n b (body :: bs)
theorem Reads.at_stop {key : List Int} {n : Int} {b : List Int} {bs : List (List Int)} (h : Reads key n b bs) (he : (readA key n b).1.2.2.2 ≠ 0) : bs = [] := by
  cases h with
  | stop h => rfl
  | step h k => rw [h] at he; exact absurd rfl he
theorem Reads.at_step {key : List Int} {n : Int} {b : List Int} {bs : List (List Int)} (h : Reads key n b bs) {kd : Int} {body : List Int} {m : Nat} (he : readA key n b = ((kd, body, (m : Int), 0), n + 1)) : ∃ bs', bs = body :: bs' ∧ Reads key (n + 1) (b.drop m) bs' := by
  cases h with
  | stop h => rw [he] at h; exact absurd rfl h
  | step h k =>
    rw [he] at h
    simp only [Prod.mk.injEq] at h
    obtain ⟨⟨_, rfl, hm, _⟩, _⟩ := h
    obtain rfl := Int.ofNat_inj.1 hm
    exact ⟨_, rfl, k⟩
theorem readA_two (key : List Int) (n : Int) {b : List Int} (hb : ByteL b) : (∃ er : Int, er ≠ 0 ∧ readA key n b = ((0, [], 0, er), n)) ∨ ∃ (kd : Int) (body : List Int) (m : Nat), readA key n b = ((kd, body, (m : Int), 0), n + 1) ∧ 11 ≤ m ∧ m ≤ b.length := by
  unfold readA
  split
  · exact .inl ⟨12, by decide, rfl⟩
  split
  · exact .inl ⟨11, by decide, rfl⟩
  split
  · exact .inl ⟨3, by decide, rfl⟩
  split
  · exact .inl ⟨11, by decide, rfl⟩
  split
  · next h3 _ h11 _ =>
    have r1 := byte_at hb (i := 1) (by omega)
    have r2 := byte_at hb (i := 2) (by omega)
    have h0 : 0 ≤ bodyLen b := by unfold bodyLen; omega
    refine .inr ⟨b.getD 0 0, appOf key n ((b.take (bodyLen b + 3).toNat).drop 3), (bodyLen b + 11).toNat, ?_, by omega, by omega⟩
    rw [Int.toNat_of_nonneg (by omega)]
  · exact .inl ⟨8, by decide, rfl⟩
theorem reads_ex (key : List Int) : ∀ (k : Nat) (n : Int) (b : List Int), ByteL b → b.length ≤ k → ∃ bs, Reads key n b bs
  | 0, n, b, hb, hk => by
    rcases readA_two key n hb with ⟨er, h1, h2⟩ | ⟨kd, body, m, h1, h2, h3⟩
    · exact ⟨[], .stop (by rw [h2]; exact h1)⟩
    · omega
  | k + 1, n, b, hb, hk => by
    rcases readA_two key n hb with ⟨er, h1, h2⟩ | ⟨kd, body, m, h1, h2, h3⟩
    · exact ⟨[], .stop (by rw [h2]; exact h1)⟩
    · obtain ⟨bs, h⟩ := reads_ex key k (n + 1) (b.drop m) (byteL_drop hb m) (by rw [List.length_drop]; omega)
      exact ⟨_, .step h1 h⟩
open Classical in
noncomputable def readsOf (key b : List Int) : List (List Int) := if h : ByteL b then Classical.choose (reads_ex key b.length 0 b h (Nat.le_refl _)) else []
theorem readsOf_is (key : List Int) {b : List Int} (h : ByteL b) : Reads key 0 b (readsOf key b) := by
  unfold readsOf
  rw [dif_pos h]
  exact Classical.choose_spec (reads_ex key b.length 0 b h (Nat.le_refl _))
/-- A secret, as it lies. -/
structure SecV where
  s : ByteArray
  A : Option Addr
  m : Nat
  cp : Nat
  l : List Int
def SecAt (w : World) (x : Addr) (v : SecV) : Prop :=
  (w.cell? x = some (.string v.s) ∧ w.cell? ⟨x.block, x.off + 1, none⟩ = some (.slice v.A v.m v.cp)) ∧
  (Kd.C (Kd.int .u8) w v.A v.m v.l ∧ v.l.length = v.m ∧ ByteL v.l ∧ v.m ≤ v.cp ∧ v.m ≤ 140737488351232 ∧ v.s.size ≤ 9223372036854775807)
def SecsAt (w : World) (A : Option Addr) (L : List SecV) : Prop := ∀ i (h : i < L.length), ∃ ad, A = some ad ∧ SecAt w (ad.add (i * 2)) L[i]
theorem SecAt.below {w w' : World} {x : Addr} {v : SecV} (h : SecAt w x v) (hb : Below w.heap.size w w') : SecAt w' x v :=
  ⟨⟨pw_cell_below hb h.1.1, pw_cell_below hb h.1.2⟩, Kd.C_below h.2.1 hb, h.2.2⟩
open Classical in
noncomputable def tryL (salt b : List Int) : List SecV → ByteArray × List (List Int) × Int
  | [] => (ByteArray.empty, [], 4)
  | v :: L => if makeOk v.l salt ∧ readsOf (derN v.l salt 4) b ≠ [] then (v.s, readsOf (derN v.l salt 4) b, 0) else tryL salt b L
noncomputable def tryA (L : List SecV) (salt b : List Int) : ByteArray × List (List Int) × Int :=
  if 131072 < b.length then (ByteArray.empty, [], 3) else if 200 < salt.length then (ByteArray.empty, [], 1) else tryL salt b L
theorem tryL_yes {salt b : List Int} {v : SecV} {L : List SecV} (h1 : makeOk v.l salt) (h2 : readsOf (derN v.l salt 4) b ≠ []) : tryL salt b (v :: L) = (v.s, readsOf (derN v.l salt 4) b, 0) := if_pos ⟨h1, h2⟩
theorem tryL_no {salt b : List Int} {v : SecV} {L : List SecV} (h : makeOk v.l salt → readsOf (derN v.l salt 4) b = []) : tryL salt b (v :: L) = tryL salt b L := if_neg fun k => k.2 (h k.1)
theorem makeK {l0 l1 : List Int} (h0 : ByteL l0) (h1 : ByteL l1) : key_Make.f l0 l1 = some (if makeOk l0 l1 then (derN l0 l1 4, 0) else ([], 1)) := by
  have hs : key_isSecret.f l0 = some (decide (1 ≤ l0.length ∧ l0.length ≤ 200)) := isText_is l0
  unfold key_Make.f
  rw [hs]
  simp only [Option.bind_some]
  by_cases c1 : 1 ≤ l0.length ∧ l0.length ≤ 200
  · rw [if_pos (decide_eq_true c1)]
    by_cases c2 : (l1.length : Int) > 200
    · rw [if_pos c2, if_neg (fun h : makeOk l0 l1 => by have := h.2; omega)]
    · have hd : key_derived.f l0 l1 = some (derN l0 l1 4) := by
        unfold key_derived.f
        rw [if_pos ⟨⟨by omega, by omega⟩, allB h0, allB h1⟩]
      rw [if_neg c2, if_pos ⟨c1, by omega⟩, hd]
      rfl
  · rw [if_neg (by rw [decide_eq_false c1]; decide), if_neg (fun h : makeOk l0 l1 => c1 h.1)]
theorem makeR {l0 l1 : List Int} (h0 : ByteL l0) (h1 : ByteL l1) : wireglassref21_Make.f l0 l1 = some (if makeOk l0 l1 then (derN l0 l1 4, 0) else ([], 1)) := by
  unfold wireglassref21_Make.f
  rw [if_pos ⟨allB h0, allB h1⟩]
section
variable (A0 : Option Addr) (c0 m0 : Nat) (l0 : List Int) (A1 : Option Addr) (c1 m1 : Nat) (l1 : List Int) (w : World) (hm0 : l0.length = m0) (hm1 : l1.length = m1) (hy0 : ByteL l0) (hy1 : ByteL l1) (hr0 : Kd.C (Kd.int .u8) w A0 m0 l0) (hc0 : m0 ≤ c0) (hr1 : Kd.C (Kd.int .u8) w A1 m1 l1) (hc1 : m1 ≤ c1)
include hm0 hm1 hy0 hy1 hr0 hc0 hr1 hc1
theorem kMake.ok (h : makeOk l0 l1) :
    Calls Try.prog 14 #[.slice A0 m0 c0, .slice A1 m1 c1] w fun e w' => ∃ (A : Option Addr) (c : Nat), e = .returned (.tuple #[.slice A 32 c, .int .i64 0]) ∧ Kd.R (Kd.int .u8) 5 w' w.heap.size (fun _ => True) (.slice A 32 c) (derN l0 l1 4) ∧ Below w.heap.size w w' := by
  subst hm0 hm1
  refine (key_Make.calls A0 c0 l0 A1 c1 l1 _ _ w hr0 hc0 hr1 hc1 ((makeK hy0 hy1).trans (by rw [if_pos h]))).mono ?_
  rintro e w' ⟨v, rfl, ho, hb⟩
  obtain ⟨A, c, e⟩ := Kd.R_slice ho
  rw [derN_length] at e
  subst e
  exact ⟨A, c, rfl, ho, hb⟩
theorem rMake.ok (h : makeOk l0 l1) :
    Calls Try.prog 15 #[.slice A0 m0 c0, .slice A1 m1 c1] w fun e w' => ∃ (A : Option Addr) (c : Nat), e = .returned (.tuple #[.slice A 32 c, .int .i64 0]) ∧ Kd.R (Kd.int .u8) 5 w' w.heap.size (fun _ => True) (.slice A 32 c) (derN l0 l1 4) ∧ Below w.heap.size w w' := by
  subst hm0 hm1
  refine (wireglassref21_Make.calls A0 c0 l0 A1 c1 l1 _ _ w hr0 hc0 hr1 hc1 ((makeR hy0 hy1).trans (by rw [if_pos h]))).mono ?_
  rintro e w' ⟨v, rfl, ho, hb⟩
  obtain ⟨A, c, e⟩ := Kd.R_slice ho
  rw [derN_length] at e
  subst e
  exact ⟨A, c, rfl, ho, hb⟩
theorem kMake.no (h : ¬ makeOk l0 l1) :
    Calls Try.prog 14 #[.slice A0 m0 c0, .slice A1 m1 c1] w fun e w' => ∃ v, e = .returned (.tuple #[v, .int .i64 1]) ∧ Below w.heap.size w w' := by
  subst hm0 hm1
  refine (key_Make.calls A0 c0 l0 A1 c1 l1 _ _ w hr0 hc0 hr1 hc1 ((makeK hy0 hy1).trans (by rw [if_neg h]))).mono ?_
  rintro e w' ⟨v, rfl, ho, hb⟩
  exact ⟨v, rfl, hb⟩
theorem rMake.no (h : ¬ makeOk l0 l1) :
    Calls Try.prog 15 #[.slice A0 m0 c0, .slice A1 m1 c1] w fun e w' => ∃ v, e = .returned (.tuple #[v, .int .i64 1]) ∧ Below w.heap.size w w' := by
  subst hm0 hm1
  refine (wireglassref21_Make.calls A0 c0 l0 A1 c1 l1 _ _ w hr0 hc0 hr1 hc1 ((makeR hy0 hy1).trans (by rw [if_neg h]))).mono ?_
  rintro e w' ⟨v, rfl, ho, hb⟩
  exact ⟨v, rfl, hb⟩
end
/-- Rows whose capacity a call has cut: they lie in rows of its own. -/
def sliceX {α : Type} (e : Nat) (d : Kd α) : Kd (List α) where
  sz := 1
  E := e :: d.E
  K := fun w xs cs => ∃ A c, cs = [.slice A xs.length c] ∧ xs.length ≤ c ∧ d.C w A xs.length xs
  M := fun w base ok xs cs => ∃ A c co, cs = [.slice A xs.length c] ∧ xs.length ≤ c ∧ d.R e w base ok (.slice A xs.length co) xs
  K_len := by
    rintro w x cs ⟨A, c, rfl, _⟩
    rfl
  K_one := by
    rintro w x cs ⟨A, c, rfl, _⟩ u hu
    rw [List.mem_singleton.1 hu]
    rfl
  K_below := by
    rintro w w1 x cs hb ⟨A, c, rfl, hl, hr⟩
    exact ⟨A, c, rfl, hl, Kd.C_below hr hb⟩
  K_of_M := by
    rintro w base ok x cs ⟨A, c, co, rfl, hl, h⟩
    obtain ⟨A', c', e', _, hr⟩ := Kd.R_reads h
    injection e' with e1 _ _
    subst e1
    exact ⟨A, c, rfl, hl, hr⟩
  M_mono := by
    rintro w base ok ok' x cs hok ⟨A, c, co, rfl, hl, h⟩
    exact ⟨A, c, co, rfl, hl, Kd.R_mono h hok⟩
  M_bound := by
    rintro w base ok x cs ⟨A, c, co, rfl, hl, h⟩
    exact ⟨A, c, co, rfl, hl, Kd.R_bound h⟩
  M_move := by
    rintro w w1 base ok x cs hm ⟨A, c, co, rfl, hl, h⟩
    exact ⟨A, c, co, rfl, hl, Kd.R_move h hm⟩
  M_lower := by
    rintro w base base' ok x cs hb ⟨A, c, co, rfl, hl, h⟩
    exact ⟨A, c, co, rfl, hl, Kd.R_lower h hb⟩
def rowsX : Kd (List Int) := sliceX 5 (Kd.int .u8)
theorem infoR : (Try.prog.info? 22).map (fun i => (i.zero, i.size, i.bytes)) = some (some (.slice none 0 0), 1, 24) := by kernel_rfl
/-- A body is made. -/
theorem rowsX_M {w : World} {base b0 : Nat} {A : Option Addr} {c co : Nat} {body : List Int} (hl : body.length ≤ c) (ho : Kd.R (Kd.int .u8) 5 w b0 (fun _ => True) (.slice A body.length co) body) (hb : base ≤ b0) : rowsX.M w base (fun k => b0 ≤ k) body [.slice A body.length c] :=
  ⟨A, c, co, rfl, hl, Kd.R_lower (Kd.R_mono (Kd.R_bound ho) (fun _ hk => hk.2.1)) hb⟩
/-- A session, where a row of another type has grown. -/
theorem Sess.grown {T : TypeId} {W w1 : World} {g : Nat} {A : Option Addr} {c : Nat} {key : List Int} {n : Int} (h : Sess T W g A c key n) {base n' : Nat} {e : TypeId} {v : Value} {size : Nat} {xs : List Value} (ho : W.ownsRow base e size v n' xs) (he : e ≠ 5) (heT : e ≠ T) (hT : T ≠ 5) (hg : W.grownBy w1 v.ownBlock) : Sess T w1 g A c key n := by
  cases hv : v.ownBlock with
  | none =>
    have hk : KeepBut W w1 g none := ⟨hg.size, fun i hi _ _ => hg.block i hi (by rw [hv]; simp)⟩
    exact ⟨(hg.block g h.lt (by rw [hv]; simp)).trans h.1, h.2.1.keep hk h.1 hT, h.2.2⟩
  | some k =>
    obtain ⟨cells, hc⟩ := own_typed ho k hv
    have hne : g ≠ k := fun e1 => by
      subst e1
      have h2 := hc.symm.trans h.1
      injection h2 with h2
      injection h2 with _ h2
      exact heT h2
    have hk : KeepBut W w1 k none := ⟨hg.size, fun i hi hne _ => hg.block i hi (by rw [hv]; simpa using hne)⟩
    exact ⟨(hg.block g h.lt (by rw [hv]; simpa using hne)).trans h.1, h.2.1.keep hk hc he, h.2.2⟩
theorem blk_grown {W w1 : World} {h0 : Nat} {T : TypeId} {cs : Array Value} (h : W.heap[h0]? = some (.cells cs T (0, 0))) {base n' : Nat} {e : TypeId} {v : Value} {size : Nat} {xs : List Value} (ho : W.ownsRow base e size v n' xs) (heT : e ≠ T) (hg : W.grownBy w1 v.ownBlock) : w1.heap[h0]? = some (.cells cs T (0, 0)) :=
  (hg.block h0 (Array.getElem?_eq_some_iff.1 h).1 (fun e1 => by
    obtain ⟨cells, hc⟩ := own_typed ho h0 e1.symm
    have h2 := hc.symm.trans h
    injection h2 with h2
    injection h2 with _ h2
    exact heT h2)).trans h
/-- What Try answers. -/
def TryPost (W : World) (r : ByteArray × List (List Int) × Int) (e : Ending) (w' : World) : Prop :=
  ∃ v, e = .returned (.tuple #[.string r.1, v, .int .i64 r.2.2]) ∧ Kd.R rowsX 22 w' W.heap.size (fun _ => True) v r.2.1 ∧ Below W.heap.size W w'
theorem results_tmp3 {fn : Func} {t u v : Tmp} (h : fn.results = #[.tmp t, .tmp u, .tmp v]) (tmps : Array Value) (P : Program) (w : World) :
    (results fn tmps).run P w = .ok (.tuple #[tmps.getD t undef, tmps.getD u undef, tmps.getD v undef]) w := by
  simp [results, h]
/-- Bytes cut behind a place. -/
theorem cut_from (A : Option Addr) (c m : Nat) (l : List Int) (hl : l.length = m) (hc : m ≤ c) (p : Nat) (hp : p ≤ m) : ∃ A' : Option Addr, (∀ W : World, (Instr.slice 22 (.slice A m c) (some (.int .i64 (p : Int))) none none).run Try.prog W = .ok (.slice A' (m - p) (c - p)) W) ∧ ∀ w : World, Kd.C (Kd.int .u8) w A m l → Kd.C (Kd.int .u8) w A' (m - p) (l.drop p) := by
  obtain ⟨i1, hi1, _, hsz1, _⟩ := info_parts info5
  subst hl
  obtain ⟨A', hcut, hC, _⟩ := print_drop_of (P := Try.prog) (Value.int .u8) 0 22 5 .i64 Try.underlying22 hi1 hsz1 A c l (p : Int) (by omega) (by omega) hc
  have e : (l.drop (p : Int).toNat).length = l.length - p := by rw [Int.toNat_natCast, List.length_drop]
  rw [e, Int.toNat_natCast] at hcut
  refine ⟨A', hcut, fun w h => ?_⟩
  have h2 := Kd.C_of_reads (h1 := fun _ => rfl) (hC w (Kd.reads_of_C h))
  rw [e, Int.toNat_natCast] at h2
  exact h2
end Go.Proofs.Ytpkmfaloncclaaa.T
