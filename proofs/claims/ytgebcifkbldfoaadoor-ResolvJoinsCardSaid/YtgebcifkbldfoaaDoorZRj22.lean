/- Contracts and plain lemmas of our own, merged. -/
import Derived.Test.YtgebcifkbldfoaaDoorZRj21
import Derived.RangeFuncBox
/- The lines with fields (layer 16): the iterator All. -/
namespace Go.Proofs.YtgebcifkbldfoaaDoor
open Go.RowKit
attribute [local go_sem] ba_get ext_take ext_drop

section
variable {α : Type}
theorem filter_at {p : α → Bool} {X : List α} {i : Nat} {x : α} (h : X[i]? = some x) (hp : p x = true) : (X.filter p)[((X.take i).filter p).length]? = some x := by
  obtain ⟨hi, hx⟩ := List.getElem?_eq_some_iff.1 h
  have e : X = X.take i ++ x :: X.drop (i + 1) := by rw [← hx, ← List.drop_eq_getElem_cons hi, List.take_append_drop]
  conv => lhs; rw [e]
  rw [List.filter_append, List.filter_cons, if_pos hp, List.take_append_of_le_length (by rw [List.length_take]; omega), List.take_take, Nat.min_self]
  rw [List.getElem?_append_right (Nat.le_refl _), Nat.sub_self]
  rfl
theorem filter_yes {p : α → Bool} {X : List α} {i : Nat} {x : α} (h : X[i]? = some x) (hp : p x = true) : ((X.take (i + 1)).filter p).length = ((X.take i).filter p).length + 1 := by
  obtain ⟨hi, hx⟩ := List.getElem?_eq_some_iff.1 h
  rw [List.take_succ_eq_append_getElem hi, hx, List.filter_append, List.length_append, List.filter_cons, if_pos hp]
  rfl
theorem filter_no {p : α → Bool} {X : List α} {i : Nat} {x : α} (h : X[i]? = some x) (hp : p x = false) : ((X.take (i + 1)).filter p).length = ((X.take i).filter p).length := by
  obtain ⟨hi, hx⟩ := List.getElem?_eq_some_iff.1 h
  rw [List.take_succ_eq_append_getElem hi, hx, List.filter_append, List.length_append, List.filter_cons, if_neg (by simp [hp])]
  rfl
end
theorem spB_mem (d : UInt8) : ∀ (l cur x : List UInt8), x ∈ spB d cur l → x.length ≤ cur.length + l.length
  | [], cur, x, h => by simp [spB] at h; subst h; simp
  | c :: r, cur, x, h => by
    rw [spB] at h
    split at h
    · rcases List.mem_cons.1 h with rfl | h
      · simp
      · have := spB_mem d r [] x h; simp at this ⊢; omega
    · have := spB_mem d r _ x h; simp at this ⊢; omega
theorem numL_mem {α : Type} {L : List α} {i : Nat} {c : Nat × α} (h : (numL L)[i]? = some c) : c.2 ∈ L := by
  unfold numL at h
  rw [List.getElem?_mapIdx] at h
  obtain ⟨x, hx, rfl⟩ := Option.map_eq_some_iff.1 h
  exact List.mem_of_getElem? hx
/-- the lines of a text, with their numbers and fields; those that have some. -/
def alN (any : Bool) (s : List UInt8) : List (Nat × List (List UInt8)) := (numL (linL s)).map fun c => (c.1, lnF any c.2)
def alP (c : Nat × List (List UInt8)) : Bool := decide (c.2 ≠ [])
def alL (any : Bool) (s : List UInt8) : List (Nat × List (List UInt8)) := (alN any s).filter alP
/-- what a line's fields are, as an iterator hands them on. -/
def encA (c : Nat × List (List UInt8)) (args : Array Value) (W : World) : Prop := ∃ v, args = #[.int .i64 (c.1 : Int), v] ∧ Sl W 1 v c.2.length (c.2.map stv)
/-- the iterator's own variables lie as they lay. -/
def KpA (W W' : World) : Prop := ∀ k v, (Boxed W k 4 v → Boxed W' k 4 v) ∧ (Boxed W k 121 v → Boxed W' k 121 v)
theorem KpA.trans {A B C : World} (h : KpA A B) (k : KpA B C) : KpA A C := fun b v => ⟨fun x => (k b v).1 ((h b v).1 x), fun x => (k b v).2 ((h b v).2 x)⟩
theorem KpA.refl (W : World) : KpA W W := fun _ _ => ⟨id, id⟩
theorem KpA.grown {W W' : World} {row : Option Nat} (hg : W.grownBy W' row) (h : ∀ r, row = some r → ∀ t u, Boxed W r t u → t ≠ 4 ∧ t ≠ 121) : KpA W W' := fun k _ =>
  ⟨fun x => x.kept hg (fun e => (h k e.symm _ _ x).1 rfl), fun x => x.kept hg (fun e => (h k e.symm _ _ x).2 rfl)⟩
theorem KpA.put (W : World) (l : Nat) (o o' : Obj) (h : W.heap[l]? = some o) (hc : o.isCells = false) : KpA W (W.putObj l o') :=
  KpA.grown (grownBy_putObj' W l o') (fun r e t v hb => by cases e; rw [show W.heap[l]? = _ from hb] at h; cases h; cases hc)
theorem gr_none {w w' : World} (h : Below w.heap.size w w') : w.grownBy w' none := ⟨h.os, h.tape, h.output, h.size, fun k hk _ => h.block k hk⟩
theorem KpA.below {W W' : World} (h : Below W.heap.size W W') : KpA W W' := KpA.grown (gr_none h) (fun r e => by cases e)
theorem keeps_below {B : Nat} {W W' : World} (h : Below W.heap.size W W') : KeepsFrom B W W' := KeepsFrom.of_grownBy (gr_none h) (fun r e => by cases e)
theorem OwnFrom.up {β : Type} {B B' : Nat} {I : β → World → Prop} (h : OwnFrom B I) (hB : B ≤ B') : OwnFrom B' I := fun s W W' row hs hg hr => h s W W' row hs hg (fun r e => ⟨Nat.le_trans hB (hr r e).1, (hr r e).2⟩)
theorem sl_own {β : Type} (B size : Nat) (v : Value) (n : Nat) (xs : List Value) : OwnFrom B (fun (_ : β) W => Sl W size v n xs) := fun _ W W' row hs hg hr => by
  obtain ⟨h1, A, c, h2, h3, h4, h5⟩ := hs
  refine ⟨h1, A, c, h2, h3, h4, fun ad had hpos => ?_⟩
  obtain ⟨g1, g2, g3⟩ := h5 ad had hpos
  exact ⟨Nat.lt_of_lt_of_le g1 hg.size, g2, fun j u hu => cell_kept (g3 j u hu) hg (fun r e => (hr r e).2)⟩
theorem encA_own (B : Nat) (c : Nat × List (List UInt8)) (args : Array Value) : OwnFrom B (fun (_ : Unit) W => encA c args W) := fun s W W' row hs hg hr => by
  obtain ⟨v, h1, h2⟩ := hs
  exact ⟨v, h1, sl_own B _ _ _ _ s W W' row h2 hg hr⟩
attribute [local go_sem] Oper.semAt_some
set_option maxRecDepth 100000 in
theorem lines_any (s : List UInt8) (w : World) : Calls Tryd.prog 77 #[.string ⟨s.toArray⟩] w fun e w' => e = .returned (.func (.func 105) #[] #[.pointer (some ⟨w.heap.size, 0, none⟩)]) ∧ w' = w.alloc (.cells #[.string ⟨s.toArray⟩] 9) := by
  go_enter Tryd.func77, Tryd.ntmps77
  go_wp2
  go_ret
  exact ⟨rfl, rfl⟩
set_option maxRecDepth 100000 in
theorem lall_any (s : List UInt8) (any : Bool) (w : World) : Calls Tryd.prog 46 #[.string ⟨s.toArray⟩, .bool any] w fun e w' => e = .returned (.func (.func 76) #[] #[.pointer (some ⟨w.heap.size, 0, none⟩), .pointer (some ⟨w.heap.size + 1, 0, none⟩)]) ∧ w' = (w.alloc (.cells #[.string ⟨s.toArray⟩] 9)).alloc (.cells #[.bool any] 4) := by
  go_enter Tryd.func46, Tryd.ntmps46
  go_wp2
  go_ret
  simp
end Go.Proofs.YtgebcifkbldfoaaDoor

/- The iterator of the lines with fields keeps its promise. -/
namespace Go.Proofs.YtgebcifkbldfoaaDoor
open Go.RowKit
attribute [local go_sem] ba_get ext_take ext_drop
attribute [local go_sem] Oper.semAt_some

theorem fn_nil (l : Nat) (w : World) : (binOp .eql 121 (.func (.yield l) #[] #[]) .nilFunc).run Tryd.prog w = .ok (.bool false) w := by
  have he : (Op.equal 121 (.func (.yield l) #[] #[]) .nilFunc).run Tryd.prog w = .ok false w := by
    unfold Op.equal
    show (Op.equalIn (9999 + 1) 121 (.func (.yield l) #[] #[]) .nilFunc).run Tryd.prog w = _
    unfold Op.equalIn
    rw [Sem.run_bind, run_underlying Tryd.underlying121]
    rfl
  show (do pure (Value.bool (← Op.equal 121 (.func (.yield l) #[] #[]) .nilFunc)) : Sem Value).run Tryd.prog w = _
  rw [Sem.run_bind, he]
  rfl
attribute [local go_sem] fn_nil
set_option maxRecDepth 100000 in
set_option maxHeartbeats 4000000 in
theorem all_seq (any : Bool) (s : List UInt8) (b1 b2 : Nat) (w : World) (h1 : Boxed w b1 9 (stv s)) (h2 : Boxed w b2 4 (.bool any)) (hl : s.length ≤ 1000000000) :
    SeqC Tryd.prog 76 #[.pointer (some ⟨b1, 0, none⟩), .pointer (some ⟨b2, 0, none⟩)] encA KpA (alL any s) w := by
  intro l J Jx W hW hJ hJx hY h0
  have HB1 : Hid (Boxed W b1 9 (stv s)) := Lib.hid ((hW.block b1 h1.lt).trans h1)
  have HB2 : Hid (Boxed W b2 4 (.bool any)) := Lib.hid ((hW.block b2 h2.lt).trans h2)
  have HY := Lib.hid hY
  have HJ := Lib.hid hJ
  have HJx := Lib.hid hJx
  have H0 := Lib.hid h0
  clear hY hJ hJx h0 h1 h2 hW
  refine callsIn_of_wp_marks Tryd.func76 rfl trivial ?_ rfl
  simp only [Tryd.ntmps76, List.size_toArray, List.length_cons, List.length_nil, Nat.reduceAdd, Nat.reduceSub, Array.replicate_succ, Array.replicate_zero, List.push_toArray, List.append_toArray, List.nil_append, List.cons_append]
  have hc1 : (W.alloc (.cells #[.func (.yield l) #[] #[]] 121)).cell? ⟨b1, 0, none⟩ = some (.string ⟨s.toArray⟩) := (HB1.out.alloc _).cell
  gi_wp2
  refine ⟨trivial, rfl, ?_⟩
  gi_at_call 77
  refine (callsIn_wide.2 (lines_any s _)).mono ?_
  rintro e w2 ⟨rfl, hw2⟩
  obtain ⟨b4, hb4⟩ : ∃ b4, b4 = (W.alloc (.cells #[.func (.yield l) #[] #[]] 121)).heap.size := ⟨_, rfl⟩
  rw [← hb4]
  have B3 : Boxed w2 W.heap.size 121 (.func (.yield l) #[] #[]) := by rw [hw2]; exact (Boxed.new W _ _).alloc _
  have B4 : Boxed w2 b4 9 (.string ⟨s.toArray⟩) := by rw [hw2, hb4]; exact Boxed.new _ _ _
  have hb02 : Below W.heap.size W w2 := by rw [hw2]; exact ((Below.refl _ W).alloc (Nat.le_refl _) _).alloc (by simp) _
  have B2 : Boxed w2 b2 4 (.bool any) := (hb02.block b2 HB2.out.lt).trans HB2.out
  have hJ2 : J 0 w2 := own_still HJ.out H0.out hb02
  have Hb02 := Lib.hid hb02
  clear hw2 hb4 HB1 hc1 hb02
  gi_wp2
  refine range_seqC (gf := 105) (lb := #[.pointer (some ⟨b4, 0, none⟩)]) rfl (enters_of Tryd.func105 (by kernel_rfl) rfl) (lines1_seq s b4 w2 B4.cell B4.lt hl (fun _ _ => True)) (Below.refl _ _) (fun _ _ => trivial) (fun _ _ _ _ _ _ => trivial)
    (fun c args V he => by rw [he]; rfl) (fun c args => ownFrom_pure _ (fun _ => args = #[.int .i64 (c.1 : Int), stv c.2]))
    (fun i V => J (((alN any s).take i).filter alP).length V ∧ Boxed V W.heap.size 121 (.func (.yield l) #[] #[]) ∧ Boxed V b2 4 (.bool any))
    (fun c V => c = .ret ∧ Jx V)
    (OwnFrom.and (fun s X Y row hs hg hr => OwnFrom.up HJ.out Hb02.out.size _ X Y row hs hg hr) (OwnFrom.and ((boxed_own _ _ (fun _ => Value.func (.yield l) #[] #[])).from _) ((boxed_own _ _ (fun _ => Value.bool any)).from _)))
    (fun c => OwnFrom.and (ownFrom_pure _ (fun _ => c = .ret)) (OwnFrom.up HJx.out Hb02.out.size))
    ⟨hJ2, B3, B2⟩
    (fun args => { tmps := #[.func (.yield l) #[] #[], .pointer (some ⟨b1, 0, none⟩), .pointer (some ⟨b2, 0, none⟩), .pointer (some ⟨W.heap.size, 0, none⟩), args.getD 0 undef, args.getD 1 undef, undef, .func (.yield l) #[] #[], .bool false, .string ⟨s.toArray⟩, .func (.func 105) #[] #[.pointer (some ⟨b4, 0, none⟩)], args.getD 0 undef, args.getD 1 undef, undef, undef, undef, undef, undef, undef, undef, undef, undef, undef, undef, undef, undef], defers := [] }) ?assign ?body ?done ?stop
  case assign =>
    intro l2 c args V K he hK
    subst he
    gi_wp2
    exact hK
  case body =>
    rintro l2 i c args V hl2 ⟨r, hr⟩ ⟨hJi, b3, b2x⟩ hc he
    subst he
    have hcl : c.2.length ≤ 1000000000 := by have := spB_mem 10 s [] c.2 (numL_mem hc); simp at this; omega
    have hN : (alN any s)[i]? = some (c.1, lnF any c.2) := by unfold alN; rw [List.getElem?_map, hc]; rfl
    have hce := b2x.cell
    have HJi := Lib.hid hJi
    have Hb3 := Lib.hid b3
    have Hb2x := Lib.hid b2x
    have HN := Lib.hid hN
    clear hJi b3 b2x hN hc hr HB2
    obtain ⟨nn, line⟩ := c
    dsimp only at hcl HN
    gi_wp2
    refine ⟨trivial, rfl, ?_⟩
    gi_at_call 78
    refine (CallsIn.inRound l2 (callsIn_wide.2 (lnf_any any line V hcl))).mono ?_
    rintro e w5 ⟨v, rfl, hs5, hb5⟩
    obtain ⟨F, hF⟩ : ∃ F, F = lnF any line := ⟨_, rfl⟩
    rw [← hF] at hs5
    have HN2 : Hid ((alN any s)[i]? = some (nn, F)) := Lib.hid (by rw [hF]; exact HN.out)
    clear HN hF
    obtain ⟨A, cp, rfl, hcp⟩ := hs5.any
    have hJ5 : J (((alN any s).take i).filter alP).length w5 := own_still HJ.out HJi.out hb5
    have b35 : Boxed w5 W.heap.size 121 (.func (.yield l) #[] #[]) := (hb5.block _ Hb3.out.lt).trans Hb3.out
    have b25 : Boxed w5 b2 4 (.bool any) := (hb5.block _ Hb2x.out.lt).trans Hb2x.out
    have Hb5 := Lib.hid hb5
    have HJ5 := Lib.hid hJ5
    have Hb35 := Lib.hid b35
    have Hb25 := Lib.hid b25
    have Hs5 := Lib.hid hs5
    clear hb5 hJ5 b25 hs5 HJi Hb3 Hb2x hce
    by_cases hE : F = []
    · subst hE
      have HC : Hid ((((alN any s).take (i + 1)).filter alP).length = (((alN any s).take i).filter alP).length) := Lib.hid (filter_no HN2.out (by simp [alP]))
      clear HN2 b35
      gi_wp2
      refine ⟨(fun _ h => by cases h), ?_⟩
      gi_wp2
      exact ⟨keeps_below Hb5.out, trivial, by rw [HC.out]; exact HJ5.out, Hb35.out, Hb25.out⟩
    · have hC := filter_yes HN2.out (show alP (nn, F) = true by simp [alP, hE])
      have hA := filter_at HN2.out (show alP (nn, F) = true by simp [alP, hE])
      have n0 : (0 : Int) < (F.length : Int) := by have := List.length_pos_iff.2 hE; omega
      have HC := Lib.hid hC
      have h3c := b35.cell
      obtain ⟨fn, tmps, assign, body, hy, hR⟩ := HY.out _ (nn, F) _ w5 HJ5.out hA ⟨_, rfl, Hs5.out⟩
      dsimp only at hy
      have HR := Lib.hid hR
      clear hC hA hR b35 HN2 hE
      gi_wp2
      refine ⟨rfl, RoundIn.mono (F := Fence.wide.inRound l2) HR.out ?_⟩
      rintro e W6 (⟨rfl, hJ6, hk6, hp6⟩ | ⟨rfl, hx6, hk6⟩)
      · have HJ6 := Lib.hid hJ6
        have HK6 := Lib.hid hk6
        have HP6 := Lib.hid hp6
        clear hJ6 hk6 hp6 h3c
        gi_wp2
        exact ⟨(keeps_below Hb5.out).trans (keepsFrom_mono HK6.out Hb02.out.size), trivial, by rw [HC.out]; exact HJ6.out, (HP6.out _ _).2 Hb35.out, (HP6.out _ _).1 Hb25.out⟩
      · have HX6 := Lib.hid hx6
        have HK6 := Lib.hid hk6
        clear hx6 hk6 h3c
        gi_wp2
        exact ⟨(keeps_below Hb5.out).trans (keepsFrom_mono HK6.out Hb02.out.size), rfl, HX6.out⟩
  case done =>
    rintro D V hD ⟨hJi, _, _⟩ hK
    gi_wp2
    refine ⟨by simp, .inl ⟨_, _, rfl, run_takeDeferred hK, ?_⟩⟩
    refine ⟨_, results_none rfl _ _ _, ⟨_, rfl⟩, .inl ?_⟩
    have h := (OwnFrom.up HJ.out Hb02.out.size).putObj (.deferred none) hJi hD hK rfl
    rw [List.take_of_length_le (by unfold alN; rw [List.length_map]; exact Nat.le_refl _)] at h
    exact h
  case stop =>
    rintro D c V hD ⟨rfl, hx⟩ hK
    gi_wp2
    refine ⟨by simp, .inl ⟨_, _, rfl, run_takeDeferred hK, ?_⟩⟩
    exact ⟨_, results_none rfl _ _ _, ⟨_, rfl⟩, .inr ((OwnFrom.up HJx.out Hb02.out.size).putObj (s := ()) (.deferred none) hx hD hK rfl)⟩
end Go.Proofs.YtgebcifkbldfoaaDoor

/- How long fields and lines are: plain. -/
namespace Go.Proofs.YtgebcifkbldfoaaDoor
open Go.RowKit

theorem fldR_mem : ∀ (l word x : List UInt8), x ∈ fldR word l → x.length ≤ word.length + l.length
  | [], word, x, h => by
    unfold fldR at h
    split at h
    · cases h
    · rw [List.mem_singleton.1 h]; simp
  | c :: r, word, x, h => by
    rw [fldR] at h
    split at h
    · split at h
      · have := fldR_mem r [] x h; simp at this ⊢; omega
      · rcases List.mem_cons.1 h with rfl | h
        · simp
        · have := fldR_mem r [] x h; simp at this ⊢; omega
    · have := fldR_mem r _ x h; simp at this ⊢; omega
theorem lnF_sub (any : Bool) (s : List UInt8) : ∃ t, lnF any s = [] ∨ (lnF any s = flds t ∧ t.length ≤ s.length) := by
  have h1 := trS_len s
  unfold lnF
  split
  · exact ⟨[], .inl rfl⟩
  · split
    · refine ⟨_, .inr ⟨rfl, ?_⟩⟩
      unfold hdC
      split
      · exact h1
      · rw [List.length_take]; omega
    · split
      · exact ⟨[], .inl rfl⟩
      · exact ⟨_, .inr ⟨rfl, h1⟩⟩
theorem lnF_bd (any : Bool) (s : List UInt8) : (lnF any s).length ≤ s.length ∧ ∀ x ∈ lnF any s, x.length ≤ s.length := by
  obtain ⟨t, h | ⟨h, hl⟩⟩ := lnF_sub any s
  · rw [h]; simp
  · rw [h]
    exact ⟨Nat.le_trans (flds_len t) hl, fun x hx => by have := fldR_mem t [] x hx; simp at this; omega⟩
theorem alL_bd {any : Bool} {s : List UInt8} {i : Nat} {c : Nat × List (List UInt8)} (h : (alL any s)[i]? = some c) : c.2.length ≤ s.length ∧ ∀ x ∈ c.2, x.length ≤ s.length := by
  have hm := List.mem_of_getElem? h
  unfold alL at hm
  have hm := (List.mem_filter.1 hm).1
  unfold alN at hm
  obtain ⟨d, hd, rfl⟩ := List.mem_map.1 hm
  obtain ⟨j, hj⟩ := List.mem_iff_getElem?.1 hd
  have h1 := spB_mem 10 s [] d.2 (numL_mem hj)
  have h2 := lnF_bd any d.2
  simp at h1
  exact ⟨by have := h2.1; dsimp only; omega, fun x hx => by have := h2.2 x hx; omega⟩
theorem alL_len (any : Bool) (s : List UInt8) : (alL any s).length ≤ s.length + 1 := by
  have h1 : (alL any s).length ≤ (alN any s).length := List.length_filter_le _ _
  have h2 : (alN any s).length = (linL s).length := by unfold alN; rw [List.length_map, numL_len]
  have h3 := linL_len 10 s []
  have h4 : (linL s).length = (spB 10 [] s).length := rfl
  omega
end Go.Proofs.YtgebcifkbldfoaaDoor
