/- Contracts and plain lemmas of our own, merged. -/
import Derived.Test.YtgebcifkbldfoaaGreatDoorZSB37
import Derived.Lib.Builder
import Derived.Lib.AppendStr
import Derived.Lib.UnsafeStr
import Derived.Laws.Externs
/- strings.Builder: what is written into it. -/
namespace Go.Proofs.YtgebcifkbldfoaaGreatDoor
open Go.RowKit
attribute [local go_sem] ba_get ext_take ext_drop ext_any ba_app

/-- a builder of the call's own (its block b, the call's own from B on) holds the bytes l. -/
def BuB (B b : Nat) (l : List UInt8) (w : World) : Prop := Lib.IsBuilder 46 5 B b (Lib.byteCells l) w
theorem bu_info : (Tryz.prog.info? 46).map (·.size) = some 2 := by kernel_rfl
theorem bu_byte : (Tryz.prog.info? 5).map (fun i => (i.zero, i.size, i.bytes)) = some (some (.int .u8 0), 1, 1) := by kernel_rfl
theorem bu_lies : liesAt Tryz.prog Tryz.prog.depth 46 (2 / Tryz.prog.cellsOf 46) 0 46 1 = true := by kernel_rfl
theorem BuilderAt_bel {T e : TypeId} {B b : Nat} {p : Value} {bs : List Value} {w w' : World} (h : Lib.BuilderAt T e B b p bs w) (hb : Below w.heap.size w w') : Lib.BuilderAt T e B b p bs w' := by
  have hlt := h.lt
  obtain ⟨h1, v, h2, h3, h4⟩ := h
  exact ⟨h1, v, (hb.block b hlt).trans h2, own_below h3 hb, h4⟩
theorem BuB.bel {B b : Nat} {l : List UInt8} {w w' : World} (h : BuB B b l w) (hb : Below w.heap.size w w') : BuB B b l w' := by
  rcases h with h | h
  · exact .inl (BuilderAt_bel h hb)
  · exact .inr (BuilderAt_bel h hb)
theorem BuB.fresh (w : World) : BuB w.heap.size w.heap.size [] (w.alloc (.cells #[.pointer none, .slice none 0 0] 46)) := Lib.fresh_isBuilder _ _ w
set_option maxRecDepth 100000 in
set_option maxHeartbeats 1000000 in
theorem bu_used (b : Nat) (w : World) (h0 : w.cell? ⟨b, 0, none⟩ = some (.pointer (some ⟨b, 0, none⟩))) : Calls Tryz.prog 38 #[.pointer (some ⟨b, 0, none⟩)] w fun e w' => e = .returned (.tuple #[]) ∧ w' = w := by
  obtain ⟨j, hj, _⟩ := Option.map_eq_some_iff.1 bu_info
  go_enter Tryz.func38, Tryz.ntmps38
  go_wp2
  rw [Lib.run_neq_ptr_same w _ Tryz.underlying43 hj]
  go_wp2
  go_end0
  exact ⟨rfl, rfl⟩
set_option maxRecDepth 100000 in
set_option maxHeartbeats 1000000 in
theorem bu_first (b : Nat) (w : World) (h0 : w.cell? ⟨b, 0, none⟩ = some (.pointer none)) (hsh : w.shape? b = some (46, 2)) (hfz : w.frozen? ⟨b, 0, none⟩ = false) : Calls Tryz.prog 38 #[.pointer (some ⟨b, 0, none⟩)] w fun e w' => e = .returned (.tuple #[]) ∧ w' = w.setCell ⟨b, 0, none⟩ (.pointer (some ⟨b, 0, none⟩)) := by
  obtain ⟨j, hj, hjs⟩ := Option.map_eq_some_iff.1 bu_info
  go_enter Tryz.func38, Tryz.ntmps38
  go_wp2
  rw [Lib.run_to_unsafe w ⟨b, 0, none⟩ Tryz.underlying43 Tryz.underlying80 hj (by rw [hjs]; decide) hsh (Nat.zero_lt_succ 1)]
  simp only [Result.andThen]
  rw [Oper.upon_value]
  go_wp2
  rw [run_callFunc_extern Tryz.func53 (by kernel_rfl) (by kernel_rfl) (by kernel_rfl) (e := Extern.AbiNoEscape.same) (by kernel_rfl)]
  rw [Lib.run_noEscape]
  simp only [Result.andThen]
  rw [Oper.upon_value]
  go_wp2
  rw [Lib.run_from_unsafe w ⟨b, 0, none⟩ Tryz.underlying80 Tryz.underlying43 hj hsh bu_lies]
  simp only [Result.andThen]
  rw [Oper.upon_value]
  go_wp2
  go_end0
  exact ⟨rfl, rfl⟩
theorem bu_check (B b : Nat) (bs : List Value) (w : World) (h : Lib.IsBuilder 46 5 B b bs w) : Calls Tryz.prog 38 #[.pointer (some ⟨b, 0, none⟩)] w fun e w' => e = .returned (.tuple #[]) ∧ (Lib.BuilderAt 46 5 B b (.pointer (some ⟨b, 0, none⟩)) bs w' ∧ Below B w w') := by
  rcases h with h | h
  · refine (bu_first b w h.cell0 h.shape h.frozen0).mono ?_
    rintro e w' ⟨rfl, rfl⟩
    exact ⟨rfl, h.used _, (Below.refl B w).setCell (p := ⟨b, 0, none⟩) h.1 _⟩
  · refine (bu_used b w h.cell0).mono ?_
    rintro e w' ⟨rfl, rfl⟩
    exact ⟨rfl, h, Below.refl B _⟩
def BuPost (B b : Nat) (l : List UInt8) (w : World) (r : Value) (e : Ending) (w' : World) : Prop := e = .returned r ∧ BuB B b l w' ∧ Below B w w'
set_option maxRecDepth 100000 in
set_option maxHeartbeats 2000000 in
theorem bu_byte_any (B b : Nat) (l : List UInt8) (w : World) (h : BuB B b l w) (hlen : l.length + 1 ≤ 140737488355328) (hBw : B ≤ w.heap.size) : Calls Tryz.prog 19 #[.pointer (some ⟨b, 0, none⟩), .int .u8 10] w (BuPost B b (l ++ [10]) w .nilIface) := by
  obtain ⟨i0, hi, hz0, hz1, hz2⟩ := info_parts bu_byte
  have HC := Lib.hid (bu_check B b _ w h)
  rw [← Lib.byteCells_length l] at hlen
  have hap : Lib.byteCells (l ++ [10]) = Lib.byteCells l ++ [.int .u8 10] := Lib.byteCells_append l [10]
  unfold BuPost BuB
  rw [hap]
  generalize Lib.byteCells l = bs at *
  clear h hap
  go_enter Tryz.func19, Tryz.ntmps19
  go_wp2_with (first | (go_at_call 38; refine HC.out.mono ?_; rintro e w1 ⟨rfl, h1, hb1⟩; refine holdL ?_))
  refine Lib.hid ?_
  obtain ⟨hB, v, hbk, hown, hne⟩ := h1
  have c0 : w1.cell? ⟨b, 0, none⟩ = some (.pointer (some ⟨b, 0, none⟩)) := by rw [Lib.cell_of_heap hbk]; rfl
  have c1 : w1.cell? ⟨b, 1, none⟩ = some v := by rw [Lib.cell_of_heap hbk]; rfl
  go_wp2_with (at_builtin; refine wpList_append_own _ rfl _ _ 44 rfl B 5 i0 (.int .u8 0) 1 1 Tryz.underlying44 hi hz0 hz1 hz2 rfl (by decide) _ _ _ rfl (hown.alloc _) ⟨w1.heap.size, 0, none⟩ 1 1 [.int .u8 10] rfl rfl ?c1 ?c2 ?c3 ?c4 ?c5 ?_)
  case c1 =>
    intro j u hj
    match j, hj with
    | 0, hj => simp at hj; subst hj; simp [Addr.add]
  case c2 => intro u hu; simp at hu; subst hu; rfl
  case c3 => unfold maxLen; omega
  case c4 => omega
  case c5 => have := hb1.size; simp; omega
  intro v' w2 hown' hgrow _
  have hlt : b < w1.heap.size := by
    rcases Nat.lt_or_ge b w1.heap.size with h' | h'
    · exact h'
    · simp [Array.getElem?_eq_none h'] at hbk
  have hb2 : w2.heap[b]? = some (.cells #[.pointer (some ⟨b, 0, none⟩), v] 46 (0, 0)) := by
    rw [hgrow.block b (by simp; omega) (fun e => hne e.symm), Lib.alloc_old w1 _ b hlt]
    exact hbk
  have d0 : w2.cell? ⟨b, 0, none⟩ = some (.pointer (some ⟨b, 0, none⟩)) := by rw [Lib.cell_of_heap hb2]; rfl
  have d1 : w2.cell? ⟨b, 1, none⟩ = some v := by rw [Lib.cell_of_heap hb2]; rfl
  have f1 : w2.frozen? ⟨b, 1, none⟩ = false := Lib.frozen_of_heap hb2 1
  obtain ⟨g, cap, rfl⟩ : ∃ g cap, v' = .slice (some ⟨g, 0, none⟩) (bs.length + 1) cap := by
    rcases hown'.2 with ⟨_, h0⟩ | ⟨g, cap, cur, hv, _⟩
    · omega
    · exact ⟨g, cap, hv⟩
  go_wp2
  go_ret
  refine ⟨rfl, .inr ?_, ?_⟩
  · exact Lib.BuilderAt.put (T := 46) (e := 5) hB hb2 (bs' := bs ++ [.int .u8 10]) (by simpa using hown') (by decide)
  · exact ((hb1.alloc (by have := hb1.size; omega) _).grown hgrow (by have := hb1.size; simp; omega) (fun k hk => (hown.lt k hk).1)).setCell (p := ⟨b, 1, none⟩) hB _
set_option maxRecDepth 100000 in
set_option maxHeartbeats 2000000 in
theorem bu_str_any (B b : Nat) (l s : List UInt8) (w : World) (h : BuB B b l w) (hlen : l.length + s.length ≤ 140737488355328) (hBw : B ≤ w.heap.size) : Calls Tryz.prog 18 #[.pointer (some ⟨b, 0, none⟩), .string ⟨s.toArray⟩] w (BuPost B b (l ++ s) w (.tuple #[.int .i64 (s.length : Int), .nilIface])) := by
  obtain ⟨i0, hi, hz0, hz1, hz2⟩ := info_parts bu_byte
  have HC := Lib.hid (bu_check B b _ w h)
  rw [← Lib.byteCells_length l] at hlen
  have hap : Lib.byteCells (l ++ s) = Lib.byteCells l ++ Lib.strCells ⟨s.toArray⟩ := Lib.byteCells_append l s
  unfold BuPost BuB
  rw [hap]
  generalize Lib.byteCells l = bs at *
  clear h hap
  have hsz : (⟨s.toArray⟩ : ByteArray).size = s.length := by simp [ByteArray.size]
  have Hsz := Lib.hid hsz
  clear hsz
  go_enter Tryz.func18, Tryz.ntmps18
  go_wp2_with (first | (go_at_call 38; refine HC.out.mono ?_; rintro e w1 ⟨rfl, h1, hb1⟩; refine holdL ?_))
  refine Lib.hid ?_
  obtain ⟨hB, v, hbk, hown, hne⟩ := h1
  have c0 : w1.cell? ⟨b, 0, none⟩ = some (.pointer (some ⟨b, 0, none⟩)) := by rw [Lib.cell_of_heap hbk]; rfl
  have c1 : w1.cell? ⟨b, 1, none⟩ = some v := by rw [Lib.cell_of_heap hbk]; rfl
  go_wp2_with (at_builtin; refine Lib.wpList_append_own_string _ rfl _ _ 44 9 rfl B 5 i0 Tryz.underlying44 Tryz.underlying9 hi hz0 hz1 hz2 _ _ _ rfl hown ⟨s.toArray⟩ rfl ?c3 ?c4 ?c5 ?_)
  case c3 => rw [Hsz.out]; unfold maxLen; omega
  case c4 => rw [Hsz.out]; omega
  case c5 => have := hb1.size; omega
  intro v' w2 hown' hgrow _
  have hlt : b < w1.heap.size := by
    rcases Nat.lt_or_ge b w1.heap.size with h' | h'
    · exact h'
    · simp [Array.getElem?_eq_none h'] at hbk
  have hb2 : w2.heap[b]? = some (.cells #[.pointer (some ⟨b, 0, none⟩), v] 46 (0, 0)) := by
    rw [hgrow.block b hlt (fun e => hne e.symm)]
    exact hbk
  have d0 : w2.cell? ⟨b, 0, none⟩ = some (.pointer (some ⟨b, 0, none⟩)) := by rw [Lib.cell_of_heap hb2]; rfl
  have d1 : w2.cell? ⟨b, 1, none⟩ = some v := by rw [Lib.cell_of_heap hb2]; rfl
  have f1 : w2.frozen? ⟨b, 1, none⟩ = false := Lib.frozen_of_heap hb2 1
  obtain ⟨ao, n', cap, rfl⟩ : ∃ ao n' cap, v' = .slice ao n' cap := by
    rcases hown'.2 with ⟨hv, _⟩ | ⟨g, cap, cur, hv, _⟩
    · exact ⟨_, _, _, hv⟩
    · exact ⟨_, _, _, hv⟩
  go_wp2
  go_ret2
  refine ⟨rfl, .inr ?_, ?_⟩
  · exact Lib.BuilderAt.put (T := 46) (e := 5) hB hb2 (bs' := bs ++ Lib.strCells ⟨s.toArray⟩) (by rw [List.length_append, Lib.strCells_length]; exact hown') (by decide)
  · exact (hb1.grown hgrow (by have := hb1.size; omega) (fun k hk => (hown.lt k hk).1)).setCell (p := ⟨b, 1, none⟩) hB _
theorem bu_get (B b : Nat) (l : List UInt8) (w : World) (h : BuB B b l w) (hBw : B ≤ w.heap.size) : Calls Tryz.prog 20 #[.pointer (some ⟨b, 0, none⟩)] w fun e w' => e = .returned (.string ⟨l.toArray⟩) ∧ Below B w w' := Tryz.Builder_String_any B b l w h hBw
end Go.Proofs.YtgebcifkbldfoaaGreatDoor

/- script: events in lines, by the program and by the reference. -/
namespace Go.Proofs.YtgebcifkbldfoaaGreatDoor
open Go.RowKit
attribute [local go_sem] ba_get ext_take ext_drop ext_any ba_app

theorem lnEv_err {e : Ev} {c : Int} (h : lnEv e = .inl c) : (c != 0) = true := by
  unfold lnEv at h
  split at h
  · next hc => cases h; simpa using hc
  · cases h
theorem lnEv_in {e : Ev} {t : List UInt8} (h : lnEv e = .inr t) : t.length ≤ 2 * e.d.length + 1100 := by
  unfold lnEv at h
  split at h
  · cases h
  · next hc => cases h; exact linE_len (Decidable.byContradiction hc)
/-- events that are few and short enough. -/
structure EvF (l : List Ev) : Prop where
  few : l.length ≤ 1000
  len : ∀ e ∈ l, e.d.length ≤ 100000
/-- so far: n of the events are written as t. -/
structure TxI (l : List Ev) (n : Nat) (t : List UInt8) : Prop where
  eq : txEv l = bindR (txEv (l.drop n)) fun s => .inr (t ++ s)
  len : t.length ≤ 300000 * n
section
variable {l : List Ev} {n : Nat} {t u : List UInt8}
theorem TxI.start (l : List Ev) : TxI l 0 [] := ⟨by rw [List.drop_zero]; cases txEv l <;> rfl, Nat.le_refl _⟩
theorem TxI.bad (h : TxI l n t) (hn : n < l.length) {c : Int} (hc : lnEv l[n] = .inl c) : txEv l = .inl c := by
  rw [h.eq, List.drop_eq_getElem_cons hn, txEv, hc]; rfl
theorem TxI.next (h : TxI l n t) (hF : EvF l) (hn : n < l.length) (hu : lnEv l[n] = .inr u) : TxI l (n + 1) (t ++ u ++ [10]) := by
  refine ⟨?_, ?_⟩
  · rw [h.eq, List.drop_eq_getElem_cons hn, txEv, hu]
    show bindR (bindR (txEv (l.drop (n + 1))) fun s => .inr (u ++ 10 :: s)) _ = _
    cases txEv (l.drop (n + 1)) with
    | inl e => rfl
    | inr r => simp [bindR]
  · have h1 := lnEv_in hu
    have h2 := hF.len _ (List.getElem_mem hn)
    have h3 := h.len
    simp only [List.length_append, List.length_singleton]
    omega
theorem TxI.done_ (h : TxI l l.length t) : txEv l = .inr t := by
  rw [h.eq, List.drop_length]; simp [txEv, bindR]
end
def TxPost (w : World) (l : List Ev) (e : Ending) (w' : World) : Prop := e = .returned (datV (txEv l)) ∧ Below w.heap.size w w'
set_option maxRecDepth 100000 in
set_option maxHeartbeats 4000000 in
theorem rstext_any (l : List Ev) (v : Value) (w : World) (hs : Sl w 22 v l.length (l.flatMap evL)) (hF : EvF l) : Calls Tryz.prog 7 #[v] w (TxPost w l) := by
  obtain ⟨a1, c1, rfl, hc1⟩ := hs.any
  have Hs := Lib.hid hs
  have HF := Lib.hid hF
  have hfew := hF.few
  clear hs hF
  go_enter Tryz.func7, Tryz.ntmps7
  go_wp2
  go_loopw [4, 5] (fun t i wr => ∃ (k : Nat) (T : List UInt8), k ≤ l.length ∧ i = .int .i64 k ∧ t = .string ⟨T.toArray⟩ ∧ TxI l k T ∧ Below w.heap.size w wr) (fun _ i _ => l.length - (intOf i).toNat)
  case atStart => exact ⟨0, [], Nat.zero_le _, rfl, rfl, TxI.start l, Below.refl _ _⟩
  case round =>
    obtain ⟨k, T, hk, rfl, rfl, hT, hb⟩ := hrel
    have hTl := hT.len
    have HT := Lib.hid hT
    have Hb := Lib.hid hb
    clear hT
    by_cases hlt : k < l.length
    · have hltI : (k : Int) < (l.length : Int) := by omega
      have hk0 : (0 : Int) ≤ (k : Int) := by omega
      obtain ⟨b, off, c, hv, hc, hbl, hcell⟩ := Hs.out.pos (by omega)
      injection hv with hv1 _ hv2
      subst hv1 hv2
      have hR0 := range_of evL_len hcell hlt
      have HR := Lib.hid (show wr.rangeAt b (off + k * 22) (evL l[k]) from fun j u hu => ((hb.cell (p := ⟨b, off + k * 22 + j, none⟩) hbl).trans (hR0 j u hu)))
      have HL := Lib.hid (fun w' => rsline_any l[k] w' (HF.out.len _ (List.getElem_mem hlt)))
      clear hcell hR0 hb
      cases hx : lnEv l[k] with
      | inl c0 =>
        have hne := lnEv_err hx
        have HE : Hid (txEv l = .inl c0) := Lib.hid (HT.out.bad hlt hx)
        unfold LnPost at HL
        rw [hx] at HL
        clear hx
        go_wp2_with (first
          | ((with_reducible show wpList _ _ _ (⟨some 18, _, _, _, _, _⟩ :: _) _ _); refine wpList_load_mid (op := ⟨some 18, _, _, _, _, _⟩) rfl _ _ rfl _ _ rfl _ _ HR.out ev_under rfl (by rw [evL_len]; exact ev_size) ?_)
          | (go_at_call 9; refine (HL.out _).mono ?_; rintro e w3 ⟨rfl, hb3⟩; have Hb := Lib.hid (bel_tr Hb.out hb3); clear hb3; unfold datV stv))
        go_ret2
        exact ⟨by rw [HE.out]; rfl, Hb.out⟩
      | inr u =>
        have HN := Lib.hid (HT.out.next HF.out hlt hx)
        have hul := lnEv_in hx
        have hdl := HF.out.len _ (List.getElem_mem hlt)
        unfold LnPost at HL
        rw [hx] at HL
        clear hx
        have hul2 : u.length ≤ 1000000 := by omega
        clear hul hdl
        go_wp2_with (first
          | ((with_reducible show wpList _ _ _ (⟨some 18, _, _, _, _, _⟩ :: _) _ _); refine wpList_load_mid (op := ⟨some 18, _, _, _, _, _⟩) rfl _ _ rfl _ _ rfl _ _ HR.out ev_under rfl (by rw [evL_len]; exact ev_size) ?_)
          | (go_at_call 9; refine (HL.out _).mono ?_; rintro e w3 ⟨rfl, hb3⟩; have Hb := Lib.hid (bel_tr Hb.out hb3); clear hb3; unfold datV stv))
        go_roundw
        case rel => exact ⟨k + 1, _, by omega, by go_num, rfl, by simpa using HN.out, Hb.out⟩
        case measure => (simp [intOf]) <;> omega
    · obtain rfl : k = l.length := by omega
      have hltI : ¬ (l.length : Int) < (l.length : Int) := by omega
      have HE : Hid (txEv l = .inr T) := Lib.hid HT.out.done_
      clear hb
      go_wp2
      go_ret2
      exact ⟨by rw [HE.out]; rfl, Hb.out⟩
/-- a block of other cells is stored into. -/
theorem BuB.far {B b g : Nat} {l : List UInt8} {w w' : World} {t : TypeId} {cs : Array Value} (h : BuB B b l w) (hS : Stays g w w') (hB : Bk w g t cs) (hg : B ≤ g) (h1 : t ≠ 46 := by decide) (h2 : t ≠ 5 := by decide) : BuB B b l w' := by
  have key : ∀ p bs, Lib.BuilderAt 46 5 B b p bs w → Lib.BuilderAt 46 5 B b p bs w' := by
    rintro p bs ⟨h3, v, h4, h5, h6⟩
    have hne : b ≠ g := by
      intro e
      subst e
      rw [show w.heap[b]? = _ from hB] at h4
      cases h4
      exact h1 rfl
    exact ⟨h3, v, (hS.block b hne).trans h4, row_kept h5 hS.grown (Harm.type (T := [5]) hg hB (by simpa using h2)), h6⟩
  rcases h with h | h
  · exact .inl (key _ _ h)
  · exact .inr (key _ _ h)
theorem bu_zero : ZeroIs Tryz.prog 46 #[.pointer none, .slice none 0 0] := by unfold ZeroIs; kernel_rfl
theorem BuB.of {B g : Nat} {w : World} (h : Bk w g 46 #[.pointer none, .slice none 0 0]) (hg : B ≤ g) : BuB B g [] w :=
  .inl ⟨hg, .slice none 0 0, h, World.ownsRow_nil w B 5 1, by simp [Value.ownBlock]⟩
set_option maxRecDepth 100000 in
set_option maxHeartbeats 4000000 in
theorem stext_any (l : List Ev) (v : Value) (w : World) (ht : Tab w) (hn : TabN w) (hs : Sl w 22 v l.length (l.flatMap evL)) (hF : EvF l) : Calls Tryz.prog 6 #[v] w (TxPost w l) := by
  obtain ⟨a1, c1, rfl, hc1⟩ := hs.any
  have Hs := Lib.hid hs
  have HF := Lib.hid hF
  have hfew := hF.few
  have Ht := Lib.hid ht
  have Hn := Lib.hid hn
  clear hs hF ht hn
  go_enter Tryz.func6, Tryz.ntmps6
  go_wp2_with (first
    | ((with_reducible show wpList _ _ _ (⟨some 4, _, _, _, _, _⟩ :: _) _ _); refine wpList_allocZ (o := ⟨some 4, _, _, _, _, _⟩) rfl _ rfl bu_zero ?_; intro b4 w1 hg1 hB1 hb1 hs1; have HU := Lib.hid (BuB.of (B := w.heap.size) hB1 (Nat.le_of_eq hg1.symm)); have Hb1 := Lib.hid hb1; clear hg1 hs1 hB1 hb1))
  go_loopw [11] (fun i wr => ∃ (k : Nat) (T : List UInt8), k ≤ l.length ∧ i = .int .i64 k ∧ TxI l k T ∧ BuB w.heap.size b4 T wr ∧ Below w.heap.size w wr) (fun i _ => l.length - (intOf i).toNat)
  case atStart => exact ⟨0, [], Nat.zero_le _, rfl, TxI.start l, HU.out, Hb1.out⟩
  case round =>
    obtain ⟨k, T, hk, rfl, hT, hU, hb⟩ := hrel
    have hTl := hT.len
    have HT := Lib.hid hT
    have Hb := Lib.hid hb
    have HV := Lib.hid hU
    clear hT HU hU Hb1
    by_cases hlt : k < l.length
    · have hltI : (k : Int) < (l.length : Int) := by omega
      have hk0 : (0 : Int) ≤ (k : Int) := by omega
      obtain ⟨b, off, c, hv, hc, hbl, hcell⟩ := Hs.out.pos (by omega)
      injection hv with hv1 _ hv2
      subst hv1 hv2
      have hR0 := range_of evL_len hcell hlt
      have HR := Lib.hid (show wr.rangeAt b (off + k * 22) (evL l[k]) from fun j u hu => ((hb.cell (p := ⟨b, off + k * 22 + j, none⟩) hbl).trans (hR0 j u hu)))
      have HL := Lib.hid (fun w' h h' => sline_any l[k] w' h h' (HF.out.len _ (List.getElem_mem hlt)))
      clear hcell hR0 hb
      unfold LnPost at HL
      cases hx : lnEv l[k] with
      | inl c0 =>
        have hne := lnEv_err hx
        have HE : Hid (txEv l = .inl c0) := Lib.hid (HT.out.bad hlt hx)
        rw [hx] at HL
        clear hx
        generalize l[k] = x at *
        go_wp2_with (first
          | ((with_reducible show wpList _ _ _ (⟨some 14, _, _, _, _, _⟩ :: _) _ _); refine wpList_load_mid (op := ⟨some 14, _, _, _, _, _⟩) rfl _ _ rfl _ _ rfl _ _ HR.out ev_under rfl (by rw [evL_len]; exact ev_size) ?_)
          | ((with_reducible show wpList _ _ _ (⟨some 6, _, _, _, _, _⟩ :: _) _ _); refine wpList_allocZ (o := ⟨some 6, _, _, _, _, _⟩) rfl _ rfl ev_zero ?_; intro g6 w2 hg2 hB2 hb2 hs2; have Hl2 := Lib.hid (show w.heap.size ≤ g6 by have := Hb.out.size; omega); have HB2 := Lib.hid hB2; have Hb := Lib.hid (bel_tr Hb.out hb2); clear hg2 hs2 hB2 hb2)
          | ((with_reducible show wpList _ _ _ (⟨none, .store _ (.tmp 6) _, _, _, _, _⟩ :: _) _ _); refine wpList_storeB (o := ⟨none, _, _, _, _, _⟩) rfl _ (.tmp 6) _ rfl rfl rfl HB2.out (ev_size' x) ((evA_size ev0).trans (evA_size x).symm) (evL_one _) ?_; intro w3 hB3 hS3; have HB3 := Lib.hid hB3; have Hb := Lib.hid (Hb.out.trans (hS3.below Hl2.out)); clear hB3 hS3)
          | ((with_reducible show wpList _ _ _ (⟨some 16, _, _, _, _, _⟩ :: _) _ _); refine wpList_loadB (o := ⟨some 16, _, _, _, _, _⟩) rfl _ _ rfl rfl HB3.out ev_under rfl (ev_size' x) ?_)
          | (go_at_call 8; refine (HL.out _ (Ht.out.below Hb.out) (Hn.out.below Hb.out)).mono ?_; rintro e w4 ⟨rfl, hb4⟩; have Hb := Lib.hid (bel_tr Hb.out hb4); clear hb4; unfold datV stv))
        go_ret2
        exact ⟨by rw [HE.out]; rfl, Hb.out⟩
      | inr u =>
        have HN := Lib.hid (HT.out.next HF.out hlt hx)
        have hul := lnEv_in hx
        have hdl := HF.out.len _ (List.getElem_mem hlt)
        rw [hx] at HL
        clear hx
        have hul2 : u.length ≤ 1000000 := by omega
        clear hul hdl
        generalize l[k] = x at *
        go_wp2_with (first
          | ((with_reducible show wpList _ _ _ (⟨some 14, _, _, _, _, _⟩ :: _) _ _); refine wpList_load_mid (op := ⟨some 14, _, _, _, _, _⟩) rfl _ _ rfl _ _ rfl _ _ HR.out ev_under rfl (by rw [evL_len]; exact ev_size) ?_)
          | ((with_reducible show wpList _ _ _ (⟨some 6, _, _, _, _, _⟩ :: _) _ _); refine wpList_allocZ (o := ⟨some 6, _, _, _, _, _⟩) rfl _ rfl ev_zero ?_; intro g6 w2 hg2 hB2 hb2 hs2; have Hl2 := Lib.hid (show w.heap.size ≤ g6 by have := Hb.out.size; omega); have HB2 := Lib.hid hB2; have HV := Lib.hid (HV.out.bel hb2); have Hb := Lib.hid (bel_tr Hb.out hb2); clear hg2 hs2 hB2 hb2)
          | ((with_reducible show wpList _ _ _ (⟨none, .store _ (.tmp 6) _, _, _, _, _⟩ :: _) _ _); refine wpList_storeB (o := ⟨none, _, _, _, _, _⟩) rfl _ (.tmp 6) _ rfl rfl rfl HB2.out (ev_size' x) ((evA_size ev0).trans (evA_size x).symm) (evL_one _) ?_; intro w3 hB3 hS3; have HB3 := Lib.hid hB3; have HV := Lib.hid (HV.out.far hS3 HB2.out Hl2.out); have Hb := Lib.hid (Hb.out.trans (hS3.below Hl2.out)); clear hB3 hS3)
          | ((with_reducible show wpList _ _ _ (⟨some 16, _, _, _, _, _⟩ :: _) _ _); refine wpList_loadB (o := ⟨some 16, _, _, _, _, _⟩) rfl _ _ rfl rfl HB3.out ev_under rfl (ev_size' x) ?_)
          | (go_at_call 8; refine (HL.out _ (Ht.out.below Hb.out) (Hn.out.below Hb.out)).mono ?_; rintro e w4 ⟨rfl, hb4⟩; have HV := Lib.hid (HV.out.bel hb4); have Hb := Lib.hid (bel_tr Hb.out hb4); clear hb4; unfold datV stv)
          | (go_at_call 18; refine (bu_str_any _ _ T u _ HV.out (by omega) Hb.out.size).mono ?_; rintro e w5 ⟨rfl, hU5, hb5⟩; have HV := Lib.hid hU5; have Hb := Lib.hid (Hb.out.trans hb5); clear hU5 hb5)
          | (go_at_call 19; refine (bu_byte_any _ _ (T ++ u) _ HV.out (by simp only [List.length_append]; omega) Hb.out.size).mono ?_; rintro e w6 ⟨rfl, hU6, hb6⟩; have HV := Lib.hid hU6; have Hb := Lib.hid (Hb.out.trans hb6); clear hU6 hb6))
        go_roundw
        case rel => exact ⟨k + 1, _, by omega, by go_num, HN.out, HV.out, Hb.out⟩
        case measure => (simp [intOf]) <;> omega
    · obtain rfl : k = l.length := by omega
      have hltI : ¬ (l.length : Int) < (l.length : Int) := by omega
      have HE : Hid (txEv l = .inr T) := Lib.hid HT.out.done_
      clear hb
      go_wp2_with (first
        | (go_at_call 20; refine (bu_get _ _ T _ HV.out Hb.out.size).mono ?_; rintro e w5 ⟨rfl, hb5⟩; have Hb := Lib.hid (Hb.out.trans hb5); clear hb5))
      go_ret2
      exact ⟨by rw [HE.out]; rfl, Hb.out⟩
end Go.Proofs.YtgebcifkbldfoaaGreatDoor

/- script: events that are few and short enough; how long their text is. -/
namespace Go.Proofs.YtgebcifkbldfoaaGreatDoor
open Go.RowKit
attribute [local go_sem] ba_get ext_take ext_drop ext_any ba_app

/-- events, as an argument. -/
structure EvArg (w : World) (v : Value) (L : List Ev) : Prop where
  sl : Sl w 22 v L.length (L.flatMap evL)
  len : L.length ≤ maxLen
  str : ∀ e ∈ L, e.d.length ≤ 140737488351232
def sumD (l : List Ev) : Nat := (l.map fun e => e.d.length).sum
theorem sumD_mem {l : List Ev} {e : Ev} (h : e ∈ l) : e.d.length ≤ sumD l := by
  induction l with
  | nil => cases h
  | cons x r ih =>
    show _ ≤ x.d.length + sumD r
    rcases List.mem_cons.1 h with rfl | h
    · omega
    · have := ih h; omega
theorem sumD_next {l : List Ev} {k : Nat} (h : k < l.length) : sumD (l.take (k + 1)) = sumD (l.take k) + l[k].d.length := by
  unfold sumD
  rw [List.take_succ_eq_append_getElem h, List.map_append, List.sum_append]
  simp
theorem adrT_len2 (a : Ad) : (adrT a).length ≤ 80 := by
  unfold adrT
  split
  · have := qtx_len a; omega
  · split
    · have := bareT_len a
      unfold colT
      split
      · next h => have := ite_len h a.ok.2.2.2; simp; omega
      · omega
    · simp
theorem linE_len2 {e : Ev} (h : chkE e = 0) : (linE e).length ≤ 2 * e.d.length + 150 := by
  obtain ⟨h1, h2, h3, h4, h5, h6, h7⟩ := chkE_ok h
  have hj := joi_len4 (wrdE e)
  have ha := adrT_len2 e.a
  have hd := hexE_len e.d
  have hp : e.k ≠ 1 → (Lib.itoa e.p).length ≤ 21 := fun hk => itoa_len (h3 hk)
  have hf : e.k = 2 → (Lib.itoa e.fp).length ≤ 21 := fun hk => itoa_len (h2 hk).2
  have w1 : wTick.length = 4 ∧ wPacket.length = 6 ∧ wOpen.length = 4 ∧ wBytes.length = 5 ∧ wClose.length = 5 := by decide
  unfold linE
  refine Nat.le_trans hj ?_
  unfold wrdE
  rcases (show e.k = 1 ∨ e.k = 2 ∨ e.k = 3 ∨ e.k = 4 ∨ e.k = 5 by omega) with hk | hk | hk | hk | hk
  · rw [if_pos hk]; simp; omega
  · have := hp (by omega); have := hf hk
    rw [if_neg (by omega), if_pos hk]; simp; omega
  · have := hp (by omega)
    rw [if_neg (by omega), if_neg (by omega), if_pos hk]; simp; omega
  · have := hp (by omega)
    rw [if_neg (by omega), if_neg (by omega), if_neg (by omega), if_pos hk]; simp; omega
  · have := hp (by omega)
    rw [if_neg (by omega), if_neg (by omega), if_neg (by omega), if_neg (by omega)]; simp; omega
theorem txEv_len : ∀ (l : List Ev) {s : List UInt8}, txEv l = .inr s → s.length ≤ 2 * sumD l + 151 * l.length
  | [], s, h => by cases h; simp
  | e :: r, s, h => by
    rw [txEv] at h
    unfold lnEv at h
    split at h
    · cases h
    · next hc =>
      have hl := linE_len2 (Decidable.byContradiction hc : chkE e = 0)
      cases hr : txEv r with
      | inl c => rw [hr] at h; cases h
      | inr u =>
        rw [hr] at h
        injection h with h
        have ih := txEv_len r hr
        have hs : sumD (e :: r) = e.d.length + sumD r := rfl
        rw [← h, List.length_append, List.length_cons, List.length_cons]
        omega
/-- few and short enough, by the law's own measure. -/
structure EvS (l : List Ev) : Prop where
  few : l.length ≤ 60
  sum : sumD l ≤ 20000
theorem EvS.few_ {l : List Ev} (h : EvS l) : EvF l := ⟨by have := h.few; omega, fun e he => by have := sumD_mem he; have := h.sum; omega⟩
def FewPost (l : List Ev) (w : World) (e : Ending) (w' : World) : Prop := ∃ b : Bool, e = .returned (.bool b) ∧ (b = true → EvS l) ∧ w = w'
set_option maxRecDepth 100000 in
set_option maxHeartbeats 2000000 in
theorem few28e_any (l : List Ev) (v : Value) (w : World) (h : EvArg w v l) : Calls Tryz.prog 5 #[v, .int .i64 60] w (FewPost l w) := by
  obtain ⟨hs, hm, hstr⟩ := h
  unfold maxLen at hm
  obtain ⟨a1, c1, rfl, hc1⟩ := hs.any
  have Hs := Lib.hid hs
  have Hstr := Lib.hid hstr
  clear hs hstr
  go_enter Tryz.func5, Tryz.ntmps5
  go_wp2
  go_loop [5, 6] (fun n i => ∃ k N : Nat, k ≤ l.length ∧ i = .int .i64 k ∧ n = .int .i64 N ∧ N = sumD (l.take k) ∧ k ≤ 60 ∧ N ≤ 20000) (fun _ i => l.length - (intOf i).toNat)
  case atStart => exact ⟨0, 0, Nat.zero_le _, rfl, rfl, rfl, by omega, by omega⟩
  case round =>
    obtain ⟨k, N, hk, rfl, rfl, hN, hk6, hN2⟩ := hrel
    have HN := Lib.hid hN
    clear hN
    by_cases hlt : k < l.length
    · have hltI : (k : Int) < (l.length : Int) := by omega
      have hk0 : (0 : Int) ≤ (k : Int) := by omega
      obtain ⟨b, off, c, hv, hc, hbl, hcell⟩ := Hs.out.pos (by omega)
      injection hv with hv1 _ hv2
      subst hv1 hv2
      have hR := range_of evL_len hcell hlt
      have hd : (evL l[k])[21]? = some (stv l[k].d) := by
        have h := evA_21 l[k]
        unfold evA at h
        rwa [List.getElem?_toArray] at h
      have c0 : w.cell? ⟨b, off + k * 22 + 21, none⟩ = some (.string ⟨l[k].d.toArray⟩) := hR 21 _ hd
      have hdl := Hstr.out _ (List.getElem_mem hlt)
      have HNx := Lib.hid (sumD_next hlt)
      generalize l[k].d = d at *
      clear hcell hR hd
      by_cases h60 : 60 ≤ k
      · have i0 : (60 : Int) ≤ (k : Int) := by omega
        go_wp2
        go_ret
        exact ⟨false, rfl, (fun h => by cases h), rfl⟩
      · have i0 : ¬ (60 : Int) ≤ (k : Int) := by omega
        by_cases hbig : 20000 < N + d.length
        · have i1 : (20000 : Int) < (N : Int) + (d.length : Int) := by omega
          go_wp2
          go_ret
          exact ⟨false, rfl, (fun h => by cases h), rfl⟩
        · have i1 : ¬ (20000 : Int) < (N : Int) + (d.length : Int) := by omega
          go_wp2
          go_round
          case rel => exact ⟨k + 1, N + d.length, by omega, by go_num, by go_num, by rw [HNx.out, ← HN.out], by omega, by omega⟩
          case measure => simp [intOf]; omega
    · obtain rfl : k = l.length := by omega
      have hltI : ¬ (l.length : Int) < (l.length : Int) := by omega
      have HE := Lib.hid (show EvS l from ⟨hk6, by have := HN.out; rw [List.take_length] at this; omega⟩)
      go_wp2
      go_ret
      exact ⟨true, rfl, fun _ => HE.out, rfl⟩
end Go.Proofs.YtgebcifkbldfoaaGreatDoor

/- ScriptBack: the walk. -/
namespace Go.Proofs.YtgebcifkbldfoaaGreatDoor
open Go.RowKit
attribute [local go_sem] ba_get ext_take ext_drop ext_any ba_app

def txS (r : Int ⊕ List UInt8) : List UInt8 := match r with | .inl _ => [] | .inr s => s
theorem datV_S (r : Int ⊕ List UInt8) : datV r = .tuple #[.string ⟨(txS r).toArray⟩, .int .i64 (codeR r)] := by cases r <;> rfl
theorem lnEv_u {e : Ev} {u : List UInt8} (h : lnEv e = .inr u) : evP u = .inr e := by
  unfold lnEv at h
  split at h
  · cases h
  · next hc => cases h; exact evP_linE (Decidable.byContradiction hc)
theorem txEv_err : ∀ (l : List Ev) {c : Int}, txEv l = .inl c → (c != 0) = true
  | [], _, h => by cases h
  | e :: r, c, h => by
    rw [txEv] at h
    cases hx : lnEv e with
    | inl d => rw [hx] at h; cases h; exact lnEv_err hx
    | inr u =>
      rw [hx] at h
      cases hr : txEv r with
      | inl d => rw [hr] at h; cases h; exact txEv_err r hr
      | inr s => rw [hr] at h; cases h
set_option maxRecDepth 100000 in
set_option maxHeartbeats 8000000 in
theorem scriptBack_walk (w : World) (ht : Tab w) (hm : MaxI w) (hn : TabN w) (l : List Ev) (v : Value) (harg : EvArg w v l) : Calls Tryz.prog 3 #[v] w (Good w) := by
  have HW := Lib.hid (fun (w' : World) (h : Below w.heap.size w w') => works44_any w' (ht.below h) (hm.below h))
  have HF := Lib.hid (few28e_any l v)
  have hlm := harg.len
  unfold maxLen at hlm
  obtain ⟨a1, c1, rfl, hc1⟩ := harg.sl.any
  have Ha := Lib.hid harg
  have Hs := Lib.hid harg.sl
  have Ht := Lib.hid ht
  have Hm := Lib.hid hm
  have Hn := Lib.hid hn
  clear harg ht hm hn
  go_enter Tryz.func3, Tryz.ntmps3
  go_wp2_with (first
    | (go_at_call 4; refine (HW.out _ (Below.refl _ _)).mono ?_; rintro e w2 ⟨rfl, hb2⟩; have Hb := Lib.hid hb2; have Ha2 := Lib.hid (show EvArg w2 _ l from ⟨Hs.out.below hb2, Ha.out.len, Ha.out.str⟩); clear hb2)
    | (go_at_call 5; refine (HF.out _ Ha2.out).mono ?_; rintro e w3 ⟨b, rfl, hb, h3⟩; have h4 := h3.symm; subst h4; clear h3; have HE := Lib.hid hb; clear hb; refine holdL ?_))
  refine Lib.hid ?_
  cases b with
  | false =>
    go_wp2_with (first
      | (go_at_call 4; refine (HW.out _ Hb.out).mono ?_; rintro e w4 ⟨rfl, hb4⟩; have Hb := Lib.hid (bel_tr Hb.out hb4); clear hb4))
    go_ret
    exact ⟨rfl, Hb.out⟩
  | true =>
    have hE := HE.out rfl
    have HEf := Lib.hid hE.few_
    have HD := Lib.hid (show ∀ e ∈ l, e.d.length ≤ 20000 from fun e he => by have := sumD_mem he; have := hE.sum; omega)
    have hl60 := hE.few
    have HS := Lib.hid (show ∀ s, txEv l = .inr s → s.length ≤ 100000 from fun s hs => by have := txEv_len l hs; have := hE.sum; omega)
    have HTx := Lib.hid (fun (w' : World) (h : Below w.heap.size w w') => stext_any l _ w' (Ht.out.below h) (Hn.out.below h) (Hs.out.below h) HEf.out)
    have HRx := Lib.hid (fun (w' : World) (h : Below w.heap.size w w') => rstext_any l _ w' (Hs.out.below h) HEf.out)
    unfold TxPost at HTx HRx
    rw [datV_S] at HTx HRx
    obtain ⟨S, hS⟩ : ∃ S, txS (txEv l) = S := ⟨_, rfl⟩
    obtain ⟨c, hc⟩ : ∃ c, codeR (txEv l) = c := ⟨_, rfl⟩
    rw [hS, hc] at HTx HRx
    have HSS := Lib.hid hS
    have HCC := Lib.hid hc
    have e1 : (S == S) = true := by simp
    have e2 : (c == c) = true := by simp
    clear hE HE hS hc HF Ha2
    go_wp2_with (first
      | (go_at_call 6; refine (HTx.out _ Hb.out).mono ?_; rintro e w4 ⟨rfl, hb4⟩; have Hb := Lib.hid (bel_tr Hb.out hb4); clear hb4)
      | (go_at_call 7; refine (HRx.out _ Hb.out).mono ?_; rintro e w5 ⟨rfl, hb5⟩; have Hb := Lib.hid (bel_tr Hb.out hb5); clear hb5))
    clear hlm HTx HRx
    go_loopw [7] (fun i wr => ∃ k : Nat, k ≤ l.length ∧ i = .int .i64 k ∧ Below w.heap.size w wr) (fun i _ => l.length - (intOf i).toNat)
    case atStart => exact ⟨0, Nat.zero_le _, rfl, Hb.out⟩
    case round =>
      obtain ⟨k, hk, rfl, hb⟩ := hrel
      clear Hb
      have Hb := Lib.hid hb
      clear hb
      by_cases hlt : k < l.length
      · have hltI : (k : Int) < (l.length : Int) := by omega
        have hk0 : (0 : Int) ≤ (k : Int) := by omega
        obtain ⟨b, off, c2, hv, hc2, hbl, hcell⟩ := Hs.out.pos (by omega)
        injection hv with hv1 _ hv2
        subst hv1 hv2
        have hR0 := range_of evL_len hcell hlt
        have hxd : l[k].d.length ≤ 20000 := HD.out _ (List.getElem_mem hlt)
        generalize l[k] = x at *
        have hd : (evL x)[21]? = some (stv x.d) := by
          have h := evA_21 x
          unfold evA at h
          rwa [List.getElem?_toArray] at h
        have HR : Hid (∀ w', Below w.heap.size w w' → w'.rangeAt b (off + k * 22) (evL x) ∧ w'.cell? ⟨b, off + k * 22 + 21, none⟩ = some (.string ⟨x.d.toArray⟩)) := Lib.hid (fun w' h => ⟨fun j u hu => ((h.cell (p := ⟨b, off + k * 22 + j, none⟩) hbl).trans (hR0 j u hu)), (h.cell (p := ⟨b, off + k * 22 + 21, none⟩) hbl).trans (hR0 21 _ hd)⟩)
        obtain ⟨q, hq⟩ : ∃ q, chkE x = q := ⟨_, rfl⟩
        obtain ⟨X, hX⟩ : ∃ X, hexE x.d = X := ⟨_, rfl⟩
        have HCk : Hid (∀ w', Calls Tryz.prog 10 #[.agg (evA x)] w' fun e w'' => e = .returned (.int .i64 q) ∧ Below w'.heap.size w' w'') := Lib.hid (fun w' => by rw [← hq]; exact scheck_any x w')
        have HRc : Hid (∀ w', Calls Tryz.prog 11 #[.agg (evA x)] w' fun e w'' => e = .returned (.int .i64 q) ∧ Below w'.heap.size w' w'') := Lib.hid (fun w' => by rw [← hq]; exact rscheck_any x w')
        have HHx : Hid (∀ w', Calls Tryz.prog 12 #[.string ⟨x.d.toArray⟩] w' fun e w'' => e = .returned (.string ⟨X.toArray⟩) ∧ Below w'.heap.size w' w'') := Lib.hid (fun w' => by rw [← hX]; exact hex44_any x.d w' (by omega))
        have HRh : Hid (∀ w', Calls Tryz.prog 13 #[.string ⟨x.d.toArray⟩] w' fun e w'' => e = .returned (.string ⟨X.toArray⟩) ∧ Below w'.heap.size w' w'') := Lib.hid (fun w' => by rw [← hX]; exact rhex44_any x.d w' (by omega))
        clear hcell hR0 hd hq hX
        cases hx : lnEv x with
        | inl c0 =>
          have hne := lnEv_err hx
          have HLn : Hid (∀ w', Below w.heap.size w w' → Calls Tryz.prog 8 #[.agg (evA x)] w' fun e w'' => e = .returned (.tuple #[.string ⟨(([] : List UInt8)).toArray⟩, .int .i64 c0]) ∧ Below w'.heap.size w' w'') := Lib.hid (fun w' h => (sline_any x w' (Ht.out.below h) (Hn.out.below h) (by omega)).mono fun e w'' ⟨he, hb⟩ => ⟨by rw [he, hx]; rfl, hb⟩)
          have HRl : Hid (∀ w', Calls Tryz.prog 9 #[.agg (evA x)] w' fun e w'' => e = .returned (.tuple #[.string ⟨(([] : List UInt8)).toArray⟩, .int .i64 c0]) ∧ Below w'.heap.size w' w'') := Lib.hid (fun w' => (rsline_any x w' (by omega)).mono fun e w'' ⟨he, hb⟩ => ⟨by rw [he, hx]; rfl, hb⟩)
          clear hx hxd
          go_wp2_with (first
            | ((with_reducible show wpList _ _ _ (⟨some 51, _, _, _, _, _⟩ :: _) _ _); refine wpList_load_mid (op := ⟨some 51, _, _, _, _, _⟩) rfl _ _ rfl _ _ rfl _ _ (HR.out _ Hb.out).1 ev_under rfl (by rw [evL_len]; exact ev_size) ?_)
            | (go_at_call 8; refine (HLn.out _ Hb.out).mono ?_; rintro e w6 ⟨rfl, hb6⟩; have Hb := Lib.hid (bel_tr Hb.out hb6); clear hb6)
            | ((with_reducible show wpList _ _ _ (⟨some 59, _, _, _, _, _⟩ :: _) _ _); refine wpList_load_mid (op := ⟨some 59, _, _, _, _, _⟩) rfl _ _ rfl _ _ rfl _ _ (HR.out _ Hb.out).1 ev_under rfl (by rw [evL_len]; exact ev_size) ?_)
            | (go_at_call 9; refine (HRl.out _).mono ?_; rintro e w7 ⟨rfl, hb7⟩; have Hb := Lib.hid (bel_tr Hb.out hb7); clear hb7; refine holdL ?_))
          refine Lib.hid ?_
          obtain ⟨r7, c7⟩ := HR.out _ Hb.out
          have R7 := Lib.hid r7
          clear r7
          go_wp2_with (fail)
          refine wp_region_bel (by kernel_rfl) (by kernel_rfl) ?_
          repeat (first
            | go_big_quiet_skip
            | (go_big_quiet_want; first
                | ((with_reducible show (⟨some 75, _, _, _, _, _⟩ : Oper).quiet _ _ _ _); refine quiet_loadEv (o := ⟨some 75, _, _, _, _, _⟩) _ rfl rfl R7.out (by simp only [Act.put, List.setIfInBounds_toArray, List.set_cons_succ, List.set_cons_zero]; exact rfl) ?_; go_big_quiet_on)
                | ((with_reducible show (⟨some 80, _, _, _, _, _⟩ : Oper).quiet _ _ _ _); refine quiet_loadEv (o := ⟨some 80, _, _, _, _, _⟩) _ rfl rfl R7.out (by simp only [Act.put, List.setIfInBounds_toArray, List.set_cons_succ, List.set_cons_zero]; exact rfl) ?_; go_big_quiet_on)
                | ((with_reducible show (⟨some 89, _, _, _, _, _⟩ : Oper).quiet _ _ _ _); refine quiet_loadC (o := ⟨some 89, _, _, _, _, _⟩) _ _ rfl rfl c7 Tryz.underlying9 rfl (by simp only [Act.put, List.setIfInBounds_toArray, List.set_cons_succ, List.set_cons_zero]; exact rfl) ?_; go_big_quiet_on)
                | ((with_reducible show (⟨some 95, _, _, _, _, _⟩ : Oper).quiet _ _ _ _); refine quiet_loadC (o := ⟨some 95, _, _, _, _, _⟩) _ _ rfl rfl c7 Tryz.underlying9 rfl (by simp only [Act.put, List.setIfInBounds_toArray, List.set_cons_succ, List.set_cons_zero]; exact rfl) ?_; go_big_quiet_on)
                | (go_big_quiet_op; first | go_big_quiet_on | go_big_quiet_call ((go_at_call 10; (with_reducible refine bel_call (HCk.out _)))) | go_big_quiet_call ((go_at_call 11; (with_reducible refine bel_call (HRc.out _)))) | go_big_quiet_call ((go_at_call 12; (with_reducible refine bel_call (HHx.out _)))) | go_big_quiet_call ((go_at_call 13; (with_reducible refine bel_call (HRh.out _)))))))
          refine wpQuiet_nil ?_
          rintro _ ⟨y, rfl⟩
          have Hb := Lib.hid (bel_tr Hb.out y.bel)
          clear c7 R7
          generalize y.at_ = wy at *
          go_wp2
          go_roundw
          case rel => exact ⟨k + 1, by omega, by go_num, Hb.out⟩
          case measure => (simp [intOf]) <;> omega
        | inr u =>
          have hul : u.length ≤ 100000 := by
            have h2 := lnEv_in hx
            omega
          have HP : Hid (∀ w', Below w.heap.size w w' → Calls Tryz.prog 14 #[.string ⟨u.toArray⟩] w' fun e w'' => e = .returned (.tuple #[.agg (evA x), .int .i64 0]) ∧ Below w'.heap.size w' w'') := Lib.hid (fun w' h => (scparse_any u w' (Ht.out.below h) (Hm.out.below h) hul).mono fun e w'' ⟨he, hb⟩ => ⟨by rw [he, lnEv_u hx]; rfl, hb⟩)
          have HLn : Hid (∀ w', Below w.heap.size w w' → Calls Tryz.prog 8 #[.agg (evA x)] w' fun e w'' => e = .returned (.tuple #[.string ⟨(u).toArray⟩, .int .i64 0]) ∧ Below w'.heap.size w' w'') := Lib.hid (fun w' h => (sline_any x w' (Ht.out.below h) (Hn.out.below h) (by omega)).mono fun e w'' ⟨he, hb⟩ => ⟨by rw [he, hx]; rfl, hb⟩)
          have HRl : Hid (∀ w', Calls Tryz.prog 9 #[.agg (evA x)] w' fun e w'' => e = .returned (.tuple #[.string ⟨(u).toArray⟩, .int .i64 0]) ∧ Below w'.heap.size w' w'') := Lib.hid (fun w' => (rsline_any x w' (by omega)).mono fun e w'' ⟨he, hb⟩ => ⟨by rw [he, hx]; rfl, hb⟩)
          clear hx hxd
          go_wp2_with (first
            | ((with_reducible show wpList _ _ _ (⟨some 51, _, _, _, _, _⟩ :: _) _ _); refine wpList_load_mid (op := ⟨some 51, _, _, _, _, _⟩) rfl _ _ rfl _ _ rfl _ _ (HR.out _ Hb.out).1 ev_under rfl (by rw [evL_len]; exact ev_size) ?_)
            | (go_at_call 8; refine (HLn.out _ Hb.out).mono ?_; rintro e w6 ⟨rfl, hb6⟩; have Hb := Lib.hid (bel_tr Hb.out hb6); clear hb6)
            | ((with_reducible show wpList _ _ _ (⟨some 59, _, _, _, _, _⟩ :: _) _ _); refine wpList_load_mid (op := ⟨some 59, _, _, _, _, _⟩) rfl _ _ rfl _ _ rfl _ _ (HR.out _ Hb.out).1 ev_under rfl (by rw [evL_len]; exact ev_size) ?_)
            | (go_at_call 9; refine (HRl.out _).mono ?_; rintro e w7 ⟨rfl, hb7⟩; have Hb := Lib.hid (bel_tr Hb.out hb7); clear hb7; refine holdL ?_))
          refine Lib.hid ?_
          obtain ⟨r7, c7⟩ := HR.out _ Hb.out
          have R7 := Lib.hid r7
          clear r7
          go_wp2_with (fail)
          refine wp_region_bel (by kernel_rfl) (by kernel_rfl) ?_
          repeat (first
            | go_big_quiet_skip
            | (go_big_quiet_want; first
                | ((with_reducible show (⟨some 75, _, _, _, _, _⟩ : Oper).quiet _ _ _ _); refine quiet_loadEv (o := ⟨some 75, _, _, _, _, _⟩) _ rfl rfl R7.out (by simp only [Act.put, List.setIfInBounds_toArray, List.set_cons_succ, List.set_cons_zero]; exact rfl) ?_; go_big_quiet_on)
                | ((with_reducible show (⟨some 80, _, _, _, _, _⟩ : Oper).quiet _ _ _ _); refine quiet_loadEv (o := ⟨some 80, _, _, _, _, _⟩) _ rfl rfl R7.out (by simp only [Act.put, List.setIfInBounds_toArray, List.set_cons_succ, List.set_cons_zero]; exact rfl) ?_; go_big_quiet_on)
                | ((with_reducible show (⟨some 89, _, _, _, _, _⟩ : Oper).quiet _ _ _ _); refine quiet_loadC (o := ⟨some 89, _, _, _, _, _⟩) _ _ rfl rfl c7 Tryz.underlying9 rfl (by simp only [Act.put, List.setIfInBounds_toArray, List.set_cons_succ, List.set_cons_zero]; exact rfl) ?_; go_big_quiet_on)
                | ((with_reducible show (⟨some 95, _, _, _, _, _⟩ : Oper).quiet _ _ _ _); refine quiet_loadC (o := ⟨some 95, _, _, _, _, _⟩) _ _ rfl rfl c7 Tryz.underlying9 rfl (by simp only [Act.put, List.setIfInBounds_toArray, List.set_cons_succ, List.set_cons_zero]; exact rfl) ?_; go_big_quiet_on)
                | (go_big_quiet_op; first | go_big_quiet_on | go_big_quiet_call ((go_at_call 10; (with_reducible refine bel_call (HCk.out _)))) | go_big_quiet_call ((go_at_call 11; (with_reducible refine bel_call (HRc.out _)))) | go_big_quiet_call ((go_at_call 12; (with_reducible refine bel_call (HHx.out _)))) | go_big_quiet_call ((go_at_call 13; (with_reducible refine bel_call (HRh.out _)))))))
          refine wpQuiet_nil ?_
          rintro _ ⟨y, rfl⟩
          have Hb := Lib.hid (bel_tr Hb.out y.bel)
          clear c7 R7
          generalize y.at_ = wy at *
          go_wp2_with (first
            | (go_at_call 14; refine (HP.out _ Hb.out).mono ?_; rintro e w8 ⟨rfl, hb8⟩; have Hb := Lib.hid (bel_tr Hb.out hb8); clear hb8)
            | ((with_reducible show wpList _ _ _ (⟨some 12, _, _, _, _, _⟩ :: _) _ _); refine wpList_allocZ (o := ⟨some 12, _, _, _, _, _⟩) rfl _ rfl ev_zero ?_; intro g12 w9 hg9 hB9 hb9 hs9; have Hl9 := Lib.hid (show w.heap.size ≤ g12 by have := Hb.out.size; omega); have HB9 := Lib.hid hB9; have Hb := Lib.hid (bel_tr Hb.out hb9); clear hg9 hs9 hB9 hb9)
            | ((with_reducible show wpList _ _ _ (⟨none, .store _ (.tmp 12) _, _, _, _, _⟩ :: _) _ _); refine wpList_storeB (o := ⟨none, _, _, _, _, _⟩) rfl _ (.tmp 12) _ rfl rfl rfl HB9.out (ev_size' x) ((evA_size ev0).trans (evA_size x).symm) (evL_one _) ?_; intro w10 hB10 hS10; have Hb := Lib.hid (Hb.out.trans (hS10.below Hl9.out)); have R12 := Lib.hid (Bk.rangeL (cs := evL x) hB10 0 (evL x) [] (by simp)); clear hB10 hS10; refine holdL ?_))
          refine Lib.hid ?_
          obtain ⟨r7, c7⟩ := HR.out _ Hb.out
          have R7 := Lib.hid r7
          clear r7 c7
          go_wp2_with (fail)
          refine wp_region_bel (by kernel_rfl) (by kernel_rfl) ?_
          repeat (first
            | go_big_quiet_skip
            | (go_big_quiet_want; first
                | ((with_reducible show (⟨some 109, _, _, _, _, _⟩ : Oper).quiet _ _ _ _); refine quiet_loadEv (o := ⟨some 109, _, _, _, _, _⟩) _ rfl rfl R12.out (by simp only [Act.put, List.setIfInBounds_toArray, List.set_cons_succ, List.set_cons_zero]; exact rfl) ?_; go_big_quiet_on)
                | ((with_reducible show (⟨some 113, _, _, _, _, _⟩ : Oper).quiet _ _ _ _); refine quiet_loadEv (o := ⟨some 113, _, _, _, _, _⟩) _ rfl rfl R7.out (by simp only [Act.put, List.setIfInBounds_toArray, List.set_cons_succ, List.set_cons_zero]; exact rfl) ?_; go_big_quiet_on)
                | ((with_reducible show (⟨some 114, _, _, _, _, _⟩ : Oper).quiet _ _ _ _); refine quiet_neqEv (o := ⟨some 114, _, _, _, _, _⟩) _ _ rfl rfl rfl (by simp only [Act.put, List.setIfInBounds_toArray, List.set_cons_succ, List.set_cons_zero]; exact rfl) ?_; go_big_quiet_on)
                | (go_big_quiet_op; first | go_big_quiet_on)))
          refine wpQuiet_nil ?_
          rintro _ ⟨y, rfl⟩
          have Hb := Lib.hid (bel_tr Hb.out y.bel)
          clear R7 R12
          generalize y.at_ = wy2 at *
          go_wp2
          go_roundw
          case rel => exact ⟨k + 1, by omega, by go_num, Hb.out⟩
          case measure => (simp [intOf]) <;> omega
      · obtain rfl : k = l.length := by omega
        have hltI : ¬ (l.length : Int) < (l.length : Int) := by omega
        cases hx : txEv l with
        | inl c0 =>
          have hne := txEv_err l hx
          have h1 := HSS.out
          have h2 := HCC.out
          rw [hx] at h1 h2
          obtain rfl : S = [] := h1.symm
          obtain rfl : c = c0 := h2.symm
          have HRd := Lib.hid (fun (w' : World) (h : Below w.heap.size w w') => (scread_any [] w' (Ht.out.below h) (Hm.out.below h) (by simp)).mono fun e w'' h => h.open_)
          clear hx h1 h2
          go_wp2_with (first
            | (go_at_call 15; refine (HRd.out _ Hb.out).mono ?_; rintro e w8 ⟨v8, rfl, hs8, hb8⟩; have Hb := Lib.hid (bel_tr Hb.out hb8); obtain ⟨A8, q8, rfl, _⟩ := hs8.any; clear hs8 hb8))
          go_ret
          exact ⟨rfl, Hb.out⟩
        | inr s =>
          have h1 := HSS.out
          have h2 := HCC.out
          rw [hx] at h1 h2
          obtain rfl : S = s := h1.symm
          obtain rfl : c = 0 := h2.symm
          have hSl := HS.out _ hx
          have hrd := readL_txEv l hx
          have HRd : Hid (∀ w', Below w.heap.size w w' → Calls Tryz.prog 15 #[.string ⟨S.toArray⟩] w' fun e w'' => ∃ v, e = .returned (.tuple #[v, .int .i64 0]) ∧ Sl w'' 22 v l.length (l.flatMap evL) ∧ Below w'.heap.size w' w'') := Lib.hid (fun w' h => (scread_any S w' (Ht.out.below h) (Hm.out.below h) hSl).mono fun e w'' h => by
            obtain ⟨v, h1, h2, h3⟩ := h.open_
            rw [hrd] at h1 h2
            exact ⟨v, h1, h2, h3⟩)
          clear hx h1 h2 hSl hrd
          go_wp2_with (first
            | (go_at_call 15; refine (HRd.out _ Hb.out).mono ?_; rintro e w8 ⟨v8, rfl, hs8, hb8⟩; have Hb := Lib.hid (bel_tr Hb.out hb8); have Hs8 := Lib.hid hs8; obtain ⟨A8, q8, rfl, _⟩ := hs8.any; clear hs8 hb8)
            | (go_at_call 16; refine (sameEvs_any l _ _ _ Hs8.out (Hs.out.below Hb.out) (by omega)).mono ?_; rintro e w9 ⟨rfl, hb9⟩; have Hb := Lib.hid (bel_tr Hb.out hb9); clear hb9))
          go_ret
          exact ⟨rfl, Hb.out⟩
end Go.Proofs.YtgebcifkbldfoaaGreatDoor
