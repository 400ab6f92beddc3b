/- The program's reading of one secret: the walk. Conditions: a text of at most 1000000 bytes; the library's tables stand. -/
import Derived.Test.YtbdakgkjomanlaaDoorF3
import Derived.Laws.ResultCell
import Derived.Test.YtbdakgkjomanlaaDoorDx4
namespace Go.Proofs.YtbdakgkjomanlaaDoor.Pure
open Go.RowKit Go.Shelf Go.Proofs.YtbdakgkjomanlaaDoor.D Go.Proofs.YtbdakgkjomanlaaDoor.Hand Go.Proofs.YtbdakgkjomanlaaDoorW.PrintWords Go.Proofs.YtbdakgkjomanlaaDoorW.PrintLast Go.Proofs.YtbdakgkjomanlaaDoorW.PrintMore
set_option linter.unusedVariables false
/-- The library's variables that the reading needs. -/
def Tabs (w : World) : Prop := (∃ m, w.cell? ⟨0, 0, none⟩ = some (.int .i64 m)) ∧ Lib.CaseVar 1 Lib.caseA w ∧ Lib.Utf8Tabs 2 3 w
theorem Tabs.below {w w' : World} (h : Tabs w) (hb : Below w.heap.size w w') : Tabs w' := by
  obtain ⟨⟨m, h0⟩, h1, h2⟩ := h
  have ce : ∀ {a : Addr} {v : Value}, w.cell? a = some v → w'.cell? a = some v := fun {a v} hc => (hb.cell (World.block_lt_of_cell? w a hc)).trans hc
  exact ⟨⟨m, ce h0⟩, Lib.CaseVar_below h1 hb, Utf8Tabs_below h2 hb⟩
def labC (s : ByteArray) : ByteArray := if spAt s < 0 then s else s.extract 0 (spAt s).toNat
def digC (s : ByteArray) : ByteArray := if spAt s < 0 then ⟨#[]⟩ else digOf s
theorem cut_eq (s : ByteArray) : (⟨(Lib.cut s.data.toList (⟨#[32]⟩ : ByteArray).data.toList).1.toArray⟩ : ByteArray) = labC s ∧ (⟨(Lib.cut s.data.toList (⟨#[32]⟩ : ByteArray).data.toList).2.1.toArray⟩ : ByteArray) = digC s ∧ (Lib.cut s.data.toList (⟨#[32]⟩ : ByteArray).data.toList).2.2 = decide (0 ≤ spAt s) := by
  have e0 : (⟨#[32]⟩ : ByteArray).data.toList = [32] := rfl
  rw [e0]
  unfold Lib.cut labC digC
  rw [Lib.index_one]
  show _ ∧ _ ∧ _
  unfold digOf
  by_cases c : 0 ≤ spAt s
  · have c2 : 0 ≤ Lib.indexByte s.data.toList 32 := c
    rw [if_pos c2, if_neg (by omega), if_neg (by omega)]
    refine ⟨?_, ?_, by simp [c]⟩
    · refine ba_ext ?_
      rw [ext_list, List.drop_zero, Nat.sub_zero]
      rfl
    · refine ba_ext ?_
      rw [ext_list]
      exact (List.take_of_length_le (by rw [List.length_drop, ← Lib.size_eq]; exact Nat.le_refl _)).symm
  · have c2 : ¬ 0 ≤ Lib.indexByte s.data.toList 32 := c
    rw [if_neg c2, if_pos (by omega), if_pos (by omega)]
    exact ⟨Lib.mk_data s, rfl, by simp [c]⟩
theorem cutS.calls (s : ByteArray) (W : World) (hs : s.size ≤ 1000000) (hT : Tabs W) :
    Calls Tryd.prog 33 #[.string s, .string ⟨#[32]⟩] W fun e w' => e = .returned (.tuple #[.string (labC s), .string (digC s), .bool (decide (0 ≤ spAt s))]) ∧ Below W.heap.size W w' := by
  obtain ⟨⟨m, h0⟩, _, _⟩ := hT
  obtain ⟨e1, e2, e3⟩ := cut_eq s
  refine (Tryd.strings_Cut s ⟨#[32]⟩ m W (by omega) h0).mono ?_
  rintro e w' ⟨rfl, n, rfl⟩
  rw [e1, e2, e3]
  exact ⟨rfl, pw_below_drewN (Below.refl _ _) n⟩
theorem lowS.calls (s t : ByteArray) (W : World) (hs : s.size ≤ 1000000) (hT : Tabs W) (ht : (⟨(Lib.toLowerD s.data.toList).toArray⟩ : ByteArray) = t) :
    Calls Tryd.prog 34 #[.string s] W fun e w' => e = .returned (.string t) ∧ Below W.heap.size W w' := by
  subst ht
  exact Tryd.strings_ToLower_any s W (by omega) hT.2.1 hT.2.2
theorem labS.calls (s : ByteArray) (b : Bool) (W : World) (hs : s.size ≤ 1000000) (hb : labOk s = b) :
    Calls Tryd.prog 20 #[.string s] W fun e w' => e = .returned (.bool b) ∧ Below W.heap.size W w' := by
  subst hb
  obtain ⟨k, hk⟩ := (labB_ev s hs).rounds
  refine (key_isLabel.calls k s _ W hk).mono ?_
  rintro e w' ⟨rfl, hd⟩
  exact ⟨rfl, hd.below⟩
theorem txtS.calls (A : Option Addr) (c : Nat) (l : List Int) (b : Bool) (W : World) (hC : Kd.C (Kd.int .u8) W A l.length l) (hc : l.length ≤ c) (hb : txtOk l = b) :
    Calls Tryd.prog 21 #[.slice A l.length c] W fun e w' => e = .returned (.bool b) ∧ Below W.heap.size W w' := by
  subst hb
  refine (key_isSecret.calls A c l _ W hC hc (txtB l)).mono ?_
  rintro e w' ⟨rfl, hd⟩
  exact ⟨rfl, hd.below⟩
theorem unhR.calls (t : ByteArray) (W : World) (ht : t.size ≤ 1000000) (r1 : List Int) (r2 : Int) (h1 : (unhexS t).1 = r1) (h2 : (unhexS t).2 = r2) :
    Calls Tryd.prog 35 #[.string t] W fun e w' => ∃ A c, e = .returned (.tuple #[.slice A r1.length c, .int .i64 r2]) ∧ Kd.R (Kd.int .u8) 5 w' W.heap.size (fun _ => True) (.slice A r1.length c) r1 ∧ Below W.heap.size W w' := by
  subst h1
  subst h2
  obtain ⟨k, hk⟩ := (unhexB_ev t ht).rounds
  refine (bits_Unhex.calls k t _ _ W hk).mono ?_
  rintro e w' ⟨v0, rfl, hR, hb⟩
  obtain ⟨A, c, rfl⟩ := Kd.R_slice hR
  exact ⟨A, c, rfl, hR, hb⟩
/-- What the reading of a row gives: right, and with which bytes. -/
theorem secOf_no {s : ByteArray} (h : spAt s < 0) : (secOf s).2.2 = false := by unfold secOf; rw [if_pos h]
theorem secOf_lab {s : ByteArray} (h : ¬ spAt s < 0) (h2 : labOk (labC s) = false) : (secOf s).2.2 = false := by
  unfold secOf
  unfold labC at h2
  rw [if_neg h] at h2
  rw [if_neg h, if_pos h2]
theorem secOf_dig {s : ByteArray} (h : ¬ spAt s < 0) (h2 : labOk (labC s) = true) : secOf s = (labC s, (unhexS (digC s)).1, decide ((unhexS (digC s)).2 = 0) && (txtOk (unhexS (digC s)).1 && decide (strOfNums (hexN (unhexS (digC s)).1) = digC s))) := by
  unfold secOf
  unfold labC digC at *
  rw [if_neg h] at h2 ⊢
  rw [if_neg h, if_neg h, if_neg (by rw [h2]; decide)]
def lowC (s : ByteArray) : ByteArray := ⟨(Lib.toLowerD (digC s).data.toList).toArray⟩
theorem secOf_low {s : ByteArray} (h : ¬ spAt s < 0) (h2 : labOk (labC s) = true) (h3 : ¬ digC s = lowC s) : (secOf s).2.2 = false := by
  rw [secOf_dig h h2]
  show (decide _ && (_ && decide _)) = false
  by_cases c : (unhexS (digC s)).2 = 0
  · have : ¬ strOfNums (hexN (unhexS (digC s)).1) = digC s := fun e => h3 (e.symm.trans (low_eq _ c))
    rw [decide_eq_false this, Bool.and_false, Bool.and_false]
  · rw [decide_eq_false c, Bool.false_and]
theorem secOf_yes {s : ByteArray} (h : ¬ spAt s < 0) (h2 : labOk (labC s) = true) (h3 : digC s = lowC s) : secOf s = (labC s, (unhexS (digC s)).1, decide ((unhexS (digC s)).2 = 0) && txtOk (unhexS (digC s)).1) := by
  rw [secOf_dig h h2]
  congr 2
  by_cases c : (unhexS (digC s)).2 = 0
  · have e : strOfNums (hexN (unhexS (digC s)).1) = digC s := (low_eq _ c).trans h3.symm
    rw [decide_eq_true e, Bool.and_true]
  · rw [decide_eq_false c, Bool.false_and, Bool.false_and]
end Go.Proofs.YtbdakgkjomanlaaDoor.Pure
namespace Go.Proofs.YtbdakgkjomanlaaDoor.Pure
open Go.RowKit Go.Shelf Go.Proofs.YtbdakgkjomanlaaDoor.D Go.Proofs.YtbdakgkjomanlaaDoor.Hand Go.Proofs.YtbdakgkjomanlaaDoorW.PrintWords Go.Proofs.YtbdakgkjomanlaaDoorW.PrintLast Go.Proofs.YtbdakgkjomanlaaDoorW.PrintMore
set_option linter.unusedVariables false
theorem sec_size : (Tryd.prog.info? 33).map (fun i => i.size) = some 2 := by kernel_rfl
/-- A block of the call's own. -/
theorem blkU {A B : World} {b : Nat} {o : Obj} (h : A.heap[b]? = some o) (hb : Below A.heap.size A B) : B.heap[b]? = some o := (hb.block _ (Array.getElem?_eq_some_iff.1 h).1).trans h
theorem sec_res {fn : Func} {p u : Tmp} (h : fn.results = #[.cell p 33, .tmp u]) (tmps : Array Value) (w : World) (N : Nat) (cs : Array Value) (hp : tmps.getD p undef = .pointer (some ⟨N, 0, none⟩)) (hb : w.heap[N]? = some (.cells cs 33 (0, 0))) (hz : cs.size = 2) :
    (results fn tmps).run Tryd.prog w = .ok (.tuple #[.agg cs, tmps.getD u undef]) w := by
  have hi : (Tryd.prog.info? 33).map (·.size) = some cs.size := by rw [hz]; exact sec_size
  rw [results_cell_tmp h, hp]
  simp only [asAddr, Sem.run_pure, Result.andThen, run_loadVar_row w N 33 33 cs (0, 0) _ hb Tryd.underlying33 rfl hi]
theorem sec_facts {W : World} {N : Nat} {a b : Value} (h : W.heap[N]? = some (.cells #[a, b] 33 (0, 0))) (v u : Value) : W.cell? ⟨N, 0, none⟩ = some a ∧ W.frozen? ⟨N, 0, none⟩ = false ∧ (W.setCell ⟨N, 0, none⟩ v).cell? ⟨N, 1, none⟩ = some b ∧ (W.setCell ⟨N, 0, none⟩ v).frozen? ⟨N, 1, none⟩ = false ∧ ((W.setCell ⟨N, 0, none⟩ v).setCell ⟨N, 1, none⟩ u).heap[N]? = some (.cells #[v, u] 33 (0, 0)) := by
  have h1 := blk_set h 0 v
  have h2 := blk_set h1 1 u
  exact ⟨by rw [Lib.cell_of_heap h]; rfl, Lib.frozen_of_heap h 0, by rw [Lib.cell_of_heap h1]; rfl, Lib.frozen_of_heap h1 1, h2⟩
theorem labC_size (s : ByteArray) (hs : s.size ≤ 1000000) : (labC s).size ≤ 1000000 := by
  unfold labC
  split
  · exact hs
  · rw [ByteArray.size_extract]; omega
theorem digC_size (s : ByteArray) (hs : s.size ≤ 1000000) : (digC s).size ≤ 1000000 := by
  unfold digC digOf
  split
  · exact Nat.zero_le _
  · rw [ByteArray.size_extract]; omega
theorem secR_lie {W W' : World} {N : Nat} {o : Obj} {v : Value} {l : List Int} (hk : W.heap[N]? = some o) (h : Kd.R (Kd.int .u8) 5 W' W.heap.size (fun _ => True) v l) : Kd.R (Kd.int .u8) 5 W' N (fun k => k ≠ N) v l :=
  Kd.R_lower (Kd.R_mono (Kd.R_bound h) (fun k hk2 => by have := (Array.getElem?_eq_some_iff.1 hk).1; have := hk2.2.1; omega)) (Nat.le_of_lt (Array.getElem?_eq_some_iff.1 hk).1)
theorem sec_stored {w W3 W5 : World} {v a b : Value} {l : List Int} (hb : Below w.heap.size w W3) (h : Kd.R (Kd.int .u8) 5 W5 w.heap.size (fun k => k ≠ w.heap.size) v l) : Kd.R (Kd.int .u8) 5 ((W5.setCell ⟨w.heap.size, 0, none⟩ a).setCell ⟨w.heap.size, 1, none⟩ b) w.heap.size (fun _ => True) v l :=
  Kd.R_mono (Kd.R_far (Kd.R_far h (fun k hk => hk) a) (fun k hk => hk) b) (fun _ _ => trivial)
def SecPost (s : ByteArray) (w : World) (e : Ending) (w' : World) : Prop := ∃ lab A key c, e = .returned (.tuple #[.agg #[.string lab, .slice A key.length c], .bool (secOf s).2.2]) ∧ ((secOf s).2.2 = true → lab = (secOf s).1 ∧ key = (secOf s).2.1) ∧ Kd.R (Kd.int .u8) 5 w' w.heap.size (fun _ => True) (.slice A key.length c) key ∧ Below w.heap.size w w'
set_option maxHeartbeats 4000000 in
set_option maxRecDepth 100000 in
theorem bsec.no (s : ByteArray) (hs : s.size ≤ 1000000) (w : World) (hT : Tabs w) (hn : spAt s < 0) : Calls Tryd.prog 18 #[.string s] w fun e w' => SecPost s w e w' := by
  have HS := Aside0.mk hs
  have HT := Aside0.mk hT
  have HN := Aside0.mk hn
  have HB0 := Aside0.mk ((Below.refl w.heap.size w).alloc (Nat.le_refl _) (.cells #[.string ⟨#[]⟩, .slice none 0 0] 33))
  have HF : Aside0 (decide (0 ≤ spAt s) = false) := ⟨decide_eq_false (by omega)⟩
  have HK : Aside0 ((w.alloc (.cells #[.string ⟨#[]⟩, .slice none 0 0] 33)).heap[w.heap.size]? = some (.cells #[.string ⟨#[]⟩, .slice none 0 0] 33 (0, 0))) := ⟨Array.getElem?_push_size⟩
  clear hs hT hn
  go_enter Tryd.func18, Tryd.ntmps18
  go_wp2_with (first
    | (go_at_call 33; refine (cutS.calls s _ HS.out (HT.out.below HB0.out)).mono ?_; rintro e W1 ⟨rfl, hb⟩; rw [HF.out]; have HB1 := Aside0.mk (HB0.out.trans (hb.mono (by simp))); have HK1 := Aside0.mk (blkU HK.out hb); obtain ⟨q0, f0, q1, f1, hk2⟩ := sec_facts HK1.out (.string ⟨#[]⟩) (.slice none 0 0); have HK2 := Aside0.mk hk2; clear hb hk2))
  (try simp only [Exit.inBlock, Exit.then])
  refine bodyPost_ret (sec_res rfl _ _ _ _ rfl HK2.out rfl) rfl ?_
  refine ⟨⟨#[]⟩, none, [], 0, ?_, ?_, Kd.R_nil _ _ _ _ _, (HB1.out.setCell (p := ⟨w.heap.size, 0, none⟩) (Nat.le_refl _) _).setCell (p := ⟨w.heap.size, 1, none⟩) (Nat.le_refl _) _⟩
  · rw [secOf_no HN.out]
    rfl
  · rw [secOf_no HN.out]
    exact fun h => nomatch h
set_option maxHeartbeats 4000000 in
set_option maxRecDepth 100000 in
theorem bsec.lab (s : ByteArray) (hs : s.size ≤ 1000000) (w : World) (hT : Tabs w) (hn : ¬ spAt s < 0) (hl : labOk (labC s) = false) : Calls Tryd.prog 18 #[.string s] w fun e w' => SecPost s w e w' := by
  have HS := Aside0.mk hs
  have HLS := Aside0.mk (labC_size s hs)
  have HT := Aside0.mk hT
  have HN := Aside0.mk (secOf_lab hn hl)
  have HL := Aside0.mk hl
  have HB0 := Aside0.mk ((Below.refl w.heap.size w).alloc (Nat.le_refl _) (.cells #[.string ⟨#[]⟩, .slice none 0 0] 33))
  have HF : Aside0 (decide (0 ≤ spAt s) = true) := ⟨decide_eq_true (by omega)⟩
  have HK : Aside0 ((w.alloc (.cells #[.string ⟨#[]⟩, .slice none 0 0] 33)).heap[w.heap.size]? = some (.cells #[.string ⟨#[]⟩, .slice none 0 0] 33 (0, 0))) := ⟨Array.getElem?_push_size⟩
  clear hs hT hn hl
  go_enter Tryd.func18, Tryd.ntmps18
  go_wp2_with (first
    | (go_at_call 33; refine (cutS.calls s _ HS.out (HT.out.below HB0.out)).mono ?_; rintro e W1 ⟨rfl, hb⟩; rw [HF.out]; have HB1 := Aside0.mk (HB0.out.trans (hb.mono HB0.out.size)); have HK1 := Aside0.mk (blkU HK.out hb); clear hb)
    | (go_at_call 20; refine (labS.calls (labC s) _ _ HLS.out HL.out).mono ?_; rintro e W2 ⟨rfl, hb⟩; have HB2 := Aside0.mk (HB1.out.trans (hb.mono HB1.out.size)); have HK2 := Aside0.mk (blkU HK1.out hb); obtain ⟨q0, f0, q1, f1, hk3⟩ := sec_facts HK2.out (.string ⟨#[]⟩) (.slice none 0 0); have HK3 := Aside0.mk hk3; clear hb hk3))
  (try simp only [Exit.inBlock, Exit.then])
  refine bodyPost_ret (sec_res rfl _ _ _ _ rfl HK3.out rfl) rfl ?_
  refine ⟨⟨#[]⟩, none, [], 0, ?_, ?_, Kd.R_nil _ _ _ _ _, (HB2.out.setCell (p := ⟨w.heap.size, 0, none⟩) (Nat.le_refl _) _).setCell (p := ⟨w.heap.size, 1, none⟩) (Nat.le_refl _) _⟩
  · rw [HN.out]
    rfl
  · rw [HN.out]
    exact fun h => nomatch h
set_option maxHeartbeats 4000000 in
set_option maxRecDepth 100000 in
theorem bsec.low (s : ByteArray) (hs : s.size ≤ 1000000) (w : World) (hT : Tabs w) (hn : ¬ spAt s < 0) (hl : labOk (labC s) = true) (hd : ¬ digC s = lowC s) : Calls Tryd.prog 18 #[.string s] w fun e w' => SecPost s w e w' := by
  have HS := Aside0.mk hs
  have HLS := Aside0.mk (labC_size s hs)
  have HDS := Aside0.mk (digC_size s hs)
  have HT := Aside0.mk hT
  have HN := Aside0.mk (secOf_low hn hl hd)
  have HL := Aside0.mk hl
  have hne : ((digC s).toList != (lowC s).toList) = true := bne_iff_ne.mpr fun e => hd (ba_eq e)
  obtain ⟨LW, hLW⟩ : ∃ t, lowC s = t := ⟨_, rfl⟩
  have hq : ((digC s).toList == LW.toList) = false := by
    rw [← hLW]
    exact beq_eq_false_iff_ne.mpr fun e => hd (ba_eq e)
  rw [hLW] at hne
  have HLW := Aside0.mk hLW
  have HB0 := Aside0.mk ((Below.refl w.heap.size w).alloc (Nat.le_refl _) (.cells #[.string ⟨#[]⟩, .slice none 0 0] 33))
  have HF : Aside0 (decide (0 ≤ spAt s) = true) := ⟨decide_eq_true (by omega)⟩
  have HK : Aside0 ((w.alloc (.cells #[.string ⟨#[]⟩, .slice none 0 0] 33)).heap[w.heap.size]? = some (.cells #[.string ⟨#[]⟩, .slice none 0 0] 33 (0, 0))) := ⟨Array.getElem?_push_size⟩
  clear hs hT hn hl hd hLW
  go_enter Tryd.func18, Tryd.ntmps18
  go_wp2_with (first
    | (go_at_call 33; refine (cutS.calls s _ HS.out (HT.out.below HB0.out)).mono ?_; rintro e W1 ⟨rfl, hb⟩; rw [HF.out]; have HB1 := Aside0.mk (HB0.out.trans (hb.mono HB0.out.size)); have HK1 := Aside0.mk (blkU HK.out hb); clear hb)
    | (go_at_call 20; refine (labS.calls (labC s) _ _ HLS.out HL.out).mono ?_; rintro e W2 ⟨rfl, hb⟩; have HB2 := Aside0.mk (HB1.out.trans (hb.mono HB1.out.size)); have HK2 := Aside0.mk (blkU HK1.out hb); clear hb)
    | (go_at_call 34; refine (lowS.calls (digC s) _ _ HDS.out (HT.out.below HB2.out) HLW.out).mono ?_; rintro e W3 ⟨rfl, hb⟩; have HB3 := Aside0.mk (HB2.out.trans (hb.mono HB2.out.size)); have HK3 := Aside0.mk (blkU HK2.out hb); obtain ⟨q0, f0, q1, f1, hk4⟩ := sec_facts HK3.out (.string ⟨#[]⟩) (.slice none 0 0); have HK4 := Aside0.mk hk4; clear hb hk4))
  (try simp only [Exit.inBlock, Exit.then])
  refine bodyPost_ret (sec_res rfl _ _ _ _ rfl HK4.out rfl) rfl ?_
  refine ⟨⟨#[]⟩, none, [], 0, ?_, ?_, Kd.R_nil _ _ _ _ _, (HB3.out.setCell (p := ⟨w.heap.size, 0, none⟩) (Nat.le_refl _) _).setCell (p := ⟨w.heap.size, 1, none⟩) (Nat.le_refl _) _⟩
  · rw [HN.out]
    rfl
  · rw [HN.out]
    exact fun h => nomatch h
set_option maxHeartbeats 4000000 in
set_option maxRecDepth 100000 in
theorem bsec.yes (s : ByteArray) (hs : s.size ≤ 1000000) (w : World) (hT : Tabs w) (hn : ¬ spAt s < 0) (hl : labOk (labC s) = true) (hd : digC s = lowC s) : Calls Tryd.prog 18 #[.string s] w fun e w' => SecPost s w e w' := by
  have HS := Aside0.mk hs
  have HLS := Aside0.mk (labC_size s hs)
  have HDS := Aside0.mk (digC_size s hs)
  have HT := Aside0.mk hT
  have HN := Aside0.mk (secOf_yes hn hl hd)
  have HL := Aside0.mk hl
  have hne : ((digC s).toList != (digC s).toList) = false := by simp
  have HLW := Aside0.mk hd.symm
  obtain ⟨L, hL⟩ : ∃ t, (unhexS (digC s)).1 = t := ⟨_, rfl⟩
  obtain ⟨E, hE⟩ : ∃ t, (unhexS (digC s)).2 = t := ⟨_, rfl⟩
  obtain ⟨TX, hTX⟩ : ∃ t, txtOk L = t := ⟨_, rfl⟩
  have HTX := Aside0.mk hTX
  have HLE := Aside0.mk hL
  have HE := Aside0.mk hE
  have HB0 := Aside0.mk ((Below.refl w.heap.size w).alloc (Nat.le_refl _) (.cells #[.string ⟨#[]⟩, .slice none 0 0] 33))
  have HF : Aside0 (decide (0 ≤ spAt s) = true) := ⟨decide_eq_true (by omega)⟩
  have HK : Aside0 ((w.alloc (.cells #[.string ⟨#[]⟩, .slice none 0 0] 33)).heap[w.heap.size]? = some (.cells #[.string ⟨#[]⟩, .slice none 0 0] 33 (0, 0))) := ⟨Array.getElem?_push_size⟩
  clear hs hT hn hl hd hTX hL hE
  by_cases cE : E = 0
  · have cb : (E == 0) = true := beq_iff_eq.mpr cE
    have HCE : Aside0 (decide (E = 0) = true) := ⟨decide_eq_true cE⟩
    clear cE
    go_enter Tryd.func18, Tryd.ntmps18
    go_wp2_with (first
      | (go_at_call 33; refine (cutS.calls s _ HS.out (HT.out.below HB0.out)).mono ?_; rintro e W1 ⟨rfl, hb⟩; rw [HF.out]; have HB1 := Aside0.mk (HB0.out.trans (hb.mono HB0.out.size)); have HK1 := Aside0.mk (blkU HK.out hb); clear hb)
      | (go_at_call 20; refine (labS.calls (labC s) _ _ HLS.out HL.out).mono ?_; rintro e W2 ⟨rfl, hb⟩; have HB2 := Aside0.mk (HB1.out.trans (hb.mono HB1.out.size)); have HK2 := Aside0.mk (blkU HK1.out hb); clear hb)
      | (go_at_call 34; refine (lowS.calls (digC s) _ _ HDS.out (HT.out.below HB2.out) HLW.out).mono ?_; rintro e W3 ⟨rfl, hb⟩; have HB3 := Aside0.mk (HB2.out.trans (hb.mono HB2.out.size)); have HK3 := Aside0.mk (blkU HK2.out hb); clear hb)
      | (go_at_call 35; refine (unhR.calls (digC s) _ HDS.out _ _ HLE.out HE.out).mono ?_; rintro e W4 ⟨A4, c4, rfl, hR, hb⟩; have HR4 := Aside0.mk hR; have HL4 := Aside0.mk (secR_lie HK3.out hR); have HB4 := Aside0.mk (HB3.out.trans (hb.mono HB3.out.size)); have HK4 := Aside0.mk (blkU HK3.out hb); clear hb hR)
      | (go_at_call 21; refine (txtS.calls A4 c4 L _ _ (Kd.R_reads' HR4.out).2.2 (Kd.R_reads' HR4.out).2.1 HTX.out).mono ?_; rintro e W5 ⟨rfl, hb⟩; have HR5 := Aside0.mk (Kd.R_below HL4.out hb); have HB5 := Aside0.mk (HB4.out.trans (hb.mono HB4.out.size)); have HK5 := Aside0.mk (blkU HK4.out hb); obtain ⟨q0, f0, q1, f1, hk6⟩ := sec_facts HK5.out (.string (labC s)) (.slice A4 L.length c4); have HK6 := Aside0.mk hk6; clear hb hk6))
    (try simp only [Exit.inBlock, Exit.then])
    refine bodyPost_ret (sec_res rfl _ _ _ _ rfl HK6.out rfl) rfl ?_
    refine ⟨labC s, A4, L, c4, ?_, ?_, sec_stored HB3.out HR5.out, (HB5.out.setCell (p := ⟨w.heap.size, 0, none⟩) (Nat.le_refl _) _).setCell (p := ⟨w.heap.size, 1, none⟩) (Nat.le_refl _) _⟩
    · rw [HN.out, HE.out, HLE.out, HTX.out]
      simp only [HCE.out, Bool.true_and]
      rfl
    · rw [HN.out]
      exact fun _ => ⟨rfl, HLE.out.symm⟩
  · have cb : (E == 0) = false := beq_eq_false_iff_ne.mpr cE
    have HCE : Aside0 (decide (E = 0) = false) := ⟨decide_eq_false cE⟩
    clear cE
    go_enter Tryd.func18, Tryd.ntmps18
    go_wp2_with (first
      | (go_at_call 33; refine (cutS.calls s _ HS.out (HT.out.below HB0.out)).mono ?_; rintro e W1 ⟨rfl, hb⟩; rw [HF.out]; have HB1 := Aside0.mk (HB0.out.trans (hb.mono HB0.out.size)); have HK1 := Aside0.mk (blkU HK.out hb); clear hb)
      | (go_at_call 20; refine (labS.calls (labC s) _ _ HLS.out HL.out).mono ?_; rintro e W2 ⟨rfl, hb⟩; have HB2 := Aside0.mk (HB1.out.trans (hb.mono HB1.out.size)); have HK2 := Aside0.mk (blkU HK1.out hb); clear hb)
      | (go_at_call 34; refine (lowS.calls (digC s) _ _ HDS.out (HT.out.below HB2.out) HLW.out).mono ?_; rintro e W3 ⟨rfl, hb⟩; have HB3 := Aside0.mk (HB2.out.trans (hb.mono HB2.out.size)); have HK3 := Aside0.mk (blkU HK2.out hb); clear hb)
      | (go_at_call 35; refine (unhR.calls (digC s) _ HDS.out _ _ HLE.out HE.out).mono ?_; rintro e W4 ⟨A4, c4, rfl, hR, hb⟩; have HR5 := Aside0.mk (secR_lie HK3.out hR); have HB4 := Aside0.mk (HB3.out.trans (hb.mono HB3.out.size)); have HK4 := Aside0.mk (blkU HK3.out hb); obtain ⟨q0, f0, q1, f1, hk6⟩ := sec_facts HK4.out (.string (labC s)) (.slice A4 L.length c4); have HK6 := Aside0.mk hk6; clear hb hR hk6))
    (try simp only [Exit.inBlock, Exit.then])
    refine bodyPost_ret (sec_res rfl _ _ _ _ rfl HK6.out rfl) rfl ?_
    refine ⟨labC s, A4, L, c4, ?_, ?_, sec_stored HB3.out HR5.out, (HB4.out.setCell (p := ⟨w.heap.size, 0, none⟩) (Nat.le_refl _) _).setCell (p := ⟨w.heap.size, 1, none⟩) (Nat.le_refl _) _⟩
    · rw [HN.out, HE.out]
      simp only [HCE.out, Bool.false_and]
      rfl
    · rw [HN.out]
      exact fun _ => ⟨rfl, HLE.out.symm⟩
theorem bsec.calls (s : ByteArray) (hs : s.size ≤ 1000000) (w : World) (hT : Tabs w) : Calls Tryd.prog 18 #[.string s] w fun e w' => SecPost s w e w' := by
  by_cases hn : spAt s < 0
  · exact bsec.no s hs w hT hn
  · rcases Bool.eq_false_or_eq_true (labOk (labC s)) with hl | hl
    · by_cases hd : digC s = lowC s
      · exact bsec.yes s hs w hT hn hl hd
      · exact bsec.low s hs w hT hn hl hd
    · exact bsec.lab s hs w hT hn hl
end Go.Proofs.YtbdakgkjomanlaaDoor.Pure
