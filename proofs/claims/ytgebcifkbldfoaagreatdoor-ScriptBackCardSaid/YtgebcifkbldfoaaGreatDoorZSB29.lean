/- Contracts and plain lemmas of our own, merged. -/
import Derived.Test.YtgebcifkbldfoaaGreatDoorZSB20
import Derived.Test.YtgebcifkbldfoaaGreatDoorZSB22
import Derived.Test.YtgebcifkbldfoaaGreatDoorZSB27
import Derived.Test.YtgebcifkbldfoaaGreatDoorZSB28
import Derived.Test.YtgebcifkbldfoaaGreatDoorZSB4
/- hosts.Parse: what a file of hosts says. -/
namespace Go.Proofs.YtgebcifkbldfoaaGreatDoor
open Go.RowKit
attribute [local go_sem] ba_get ext_take ext_drop ext_any ba_app

theorem heap_lt {W : World} {o : Obj} {g : Nat} (h : W.heap[g]? = some o) : g < W.heap.size := by
  rcases Nat.lt_or_ge g W.heap.size with hlt | hge
  · exact hlt
  · rw [Array.getElem?_eq_none hge] at h; cases h
/-- a block (if any) at or above b, none of these types' cells. -/
structure Harm (T : List TypeId) (b : Nat) (W : World) (row : Option Nat) : Prop where
  ge : ∀ r, row = some r → b ≤ r
  ne : ∀ g cur t fr, W.heap[g]? = some (.cells cur t fr) → t ∈ T → some g ≠ row
theorem Harm.loop {T : List TypeId} {B b : Nat} {W : World} {row : Option Nat} (hb : b ≤ B) (hr : ∀ r, row = some r → B ≤ r ∧ ∃ o : Obj, W.heap[r]? = some o ∧ o.isCells = false) : Harm T b W row := by
  refine ⟨fun r e => Nat.le_trans hb (hr r e).1, fun g cur t fr hg _ e => ?_⟩
  obtain ⟨_, o, h1, h2⟩ := hr g e.symm
  rw [hg] at h1
  cases h1
  cases h2
theorem Harm.type {T : List TypeId} {b g : Nat} {W : World} {cs : Array Value} {t' : TypeId} {fr' : Nat × Nat} (hb : b ≤ g) (hB : W.heap[g]? = some (.cells cs t' fr')) (hT : t' ∉ T) : Harm T b W (some g) := by
  refine ⟨fun r e => by cases e; exact hb, fun k cur t fr hk ht e => ?_⟩
  cases e
  rw [hk] at hB
  cases hB
  exact hT ht
theorem Harm.own {T : List TypeId} {b b' size n : Nat} {e : TypeId} {W : World} {v : Value} {xs : List Value} (hb : b ≤ b') (h : W.ownsRow b' e size v n xs) (hT : e ∉ T) : Harm T b W v.ownBlock := by
  rcases h.2 with ⟨rfl, _⟩ | ⟨g', cap, cur, rfl, hb', hg', _⟩
  · exact ⟨(fun r e => by cases e), (fun g cur t fr hg _ e => by cases e)⟩
  · exact Harm.type (Nat.le_trans hb hb') hg' hT
theorem Harm.mono {T T' : List TypeId} {b b' : Nat} {W : World} {row : Option Nat} (h : Harm T b W row) (hT : ∀ t ∈ T', t ∈ T) (hb : b' ≤ b) : Harm T' b' W row := ⟨fun r e => Nat.le_trans hb (h.ge r e), fun g cur t fr hg ht => h.ne g cur t fr hg (hT t ht)⟩
theorem Stays.grown {g : Nat} {w w' : World} (h : Stays g w w') : w.grownBy w' (some g) := ⟨h.os, h.tape, h.output, Nat.le_of_eq h.size.symm, fun k _ hne => h.block k (fun e => hne (by rw [e]))⟩
section
variable {b size n : Nat} {t e : TypeId} {W W' : World} {v : Value} {xs : List Value} {row : Option Nat}
theorem SlB.kept (hs : SlB b t W size v n xs) (hg : W.grownBy W' row) (hh : Harm [t] b W row) : SlB b t W' size v n xs := by
  have key : ∀ g off c, v = .slice (some ⟨g, off, none⟩) n c → 0 < n → some g ≠ row := by
    intro g off c hv hn hgo
    rcases hs.far g off c hv hn with hl | ⟨cur2, fr, h2⟩
    · have := hh.ge g hgo.symm; omega
    · exact hh.ne g cur2 t fr h2 (by simp) hgo
  refine ⟨?_, fun g off c hv hn => ?_⟩
  · obtain ⟨h0, A, c, rfl, hc, hA, hcell⟩ := hs.sl
    refine ⟨h0, A, c, rfl, hc, hA, fun ad had hn => ?_⟩
    obtain ⟨h1, h2, h3⟩ := hcell ad had hn
    obtain ⟨g, off, sp⟩ := ad
    dsimp only at h1 h2 h3
    subst had h2
    exact ⟨Nat.lt_of_lt_of_le h1 hg.size, rfl, fun j u hu => hg.cell (h3 j u hu) (key g off c rfl hn)⟩
  · rcases hs.far g off c hv hn with hl | ⟨cur, fr, hh2⟩
    · exact .inl hl
    · exact .inr ⟨cur, fr, (hg.block g (heap_lt hh2) (key g off c hv hn)).trans hh2⟩
theorem NmB.kept {q : Value × NmL} (hs : NmB b W q) (hg : W.grownBy W' row) (hh : Harm [9] b W row) : NmB b W' q := ⟨hs.sl.kept hg hh, hs.few, hs.len⟩
theorem row_kept (hs : W.ownsRow b e size v n xs) (hg : W.grownBy W' row) (hh : Harm [e] b W row) : W'.ownsRow b e size v n xs := by
  refine hs.kept hg ?_
  rcases hs.2 with ⟨rfl, _⟩ | ⟨g', cap, cur, rfl, hb', hg', _⟩
  · exact .inl rfl
  · refine .inr ?_
    have := hh.ne _ _ _ _ hg' (by simp)
    simpa [Value.ownBlock] using this
theorem Below.kept {w : World} (hs : Below b w W) (hw : b ≤ W.heap.size) (hg : W.grownBy W' row) {T : List TypeId} (hh : Harm T b W row) : Below b w W' := hs.grown hg hw (fun k hk => hh.ge k hk)
theorem keeps_cells {B r : Nat} {cur : Array Value} {fr : Nat × Nat} (hg : W.grownBy W' (some r)) (hr : W.heap[r]? = some (.cells cur t fr)) : KeepsFrom B W W' := by
  refine ⟨hg.size, fun k o _ ho hc => (hg.block k (heap_lt ho) ?_).trans ho⟩
  intro h
  injection h with h
  subst h
  rw [hr] at ho
  cases ho
  cases hc
theorem keeps_row {B : Nat} (hs : W.ownsRow b e size v n xs) (hg : W.grownBy W' v.ownBlock) : KeepsFrom B W W' := by
  rcases hs.2 with ⟨rfl, _⟩ | ⟨g', cap, cur, rfl, hb', hg', _⟩
  · exact KeepsFrom.of_grownBy hg (fun r e => by cases e)
  · exact keeps_cells hg hg'
end
attribute [local go_sem] Oper.semAt_some
end Go.Proofs.YtgebcifkbldfoaaGreatDoor

/- What resolv.conf says, in memory; resolv.set. -/
namespace Go.Proofs.YtgebcifkbldfoaaGreatDoor
open Go.RowKit
attribute [local go_sem] ba_get ext_take ext_drop ext_any ba_app

/-- all that stood stands, but for blocks at or above b of these types. -/
structure Chg (b : Nat) (T : List TypeId) (V W : World) : Prop where
  os : W.os = V.os
  tape : W.tape = V.tape
  output : W.output = V.output
  size : V.heap.size ≤ W.heap.size
  block : ∀ k, k < V.heap.size → (k < b ∨ ∀ cur t fr, V.heap[k]? = some (.cells cur t fr) → t ∉ T) → W.heap[k]? = V.heap[k]?
section
variable {b : Nat} {T : List TypeId} {U V W : World}
theorem Chg.refl (b : Nat) (T : List TypeId) (V : World) : Chg b T V V := ⟨rfl, rfl, rfl, Nat.le_refl _, fun _ _ _ => rfl⟩
theorem Chg.trans (h : Chg b T U V) (k : Chg b T V W) : Chg b T U W :=
  ⟨k.os.trans h.os, k.tape.trans h.tape, k.output.trans h.output, Nat.le_trans h.size k.size, fun i hi hc => by
    have h1 := h.block i hi hc
    exact (k.block i (Nat.lt_of_lt_of_le hi h.size) (by rw [h1]; exact hc)).trans h1⟩
theorem Chg.bel (h : Chg b T V W) (hb : b ≤ V.heap.size) : Below b V W := ⟨h.os, h.tape, h.output, h.size, fun k hk => h.block k (by omega) (.inl hk)⟩
end
end Go.Proofs.YtgebcifkbldfoaaGreatDoor

/- strings.SplitSeq at one byte: what its iterator hands on. -/
namespace Go.Proofs.YtgebcifkbldfoaaGreatDoor
open Go.RowKit
attribute [local go_sem] ba_get ext_take ext_drop ext_any

/-- the iterator's own variables lie as they lay. -/
def KpS (b : Nat) (W W' : World) : Prop := ∀ v, (Boxed W b 9 v → Boxed W' b 9 v) ∧ (Boxed W (b + 1) 9 v → Boxed W' (b + 1) 9 v) ∧ (Boxed W (b + 2) 3 v → Boxed W' (b + 2) 3 v)
theorem KpS.trans {b : Nat} {A B C : World} (h : KpS b A B) (k : KpS b B C) : KpS b A C := fun v => ⟨fun x => (k v).1 ((h v).1 x), fun x => (k v).2.1 ((h v).2.1 x), fun x => (k v).2.2 ((h v).2.2 x)⟩
theorem KpS.grown {b : Nat} {W W' : World} {row : Option Nat} (hg : W.grownBy W' row) (h : ∀ r, row = some r → ∀ t u, Boxed W r t u → t ≠ 9 ∧ t ≠ 3) : KpS b W W' := fun _ =>
  ⟨fun x => x.kept hg (fun e => (h b e.symm _ _ x).1 rfl), fun x => x.kept hg (fun e => (h (b + 1) e.symm _ _ x).1 rfl), fun x => x.kept hg (fun e => (h (b + 2) e.symm _ _ x).2 rfl)⟩
theorem KpS.put {b : Nat} (W : World) (l : Nat) (o o' : Obj) (h : W.heap[l]? = some o) (hc : o.isCells = false) : KpS b W (W.putObj l o') :=
  KpS.grown (grownBy_putObj' W l o') (fun r e t v hb => by cases e; rw [show W.heap[l]? = _ from hb] at h; cases h; cases hc)
theorem KpS.below {b : Nat} {W W' : World} (h : Below W.heap.size W W') : KpS b W W' := KpS.grown (gr_none h) (fun r e => by cases e)
set_option maxRecDepth 100000 in
theorem splitseq_any (s : List UInt8) (w : World) : Calls Tryz.prog 36 #[.string ⟨s.toArray⟩, .string ⟨#[10]⟩] w fun e w' => e = .returned (.func (.func 65) #[] #[.pointer (some ⟨w.heap.size + 1, 0, none⟩), .pointer (some ⟨w.heap.size, 0, none⟩), .pointer (some ⟨w.heap.size + 2, 0, none⟩)]) ∧ w' = ((w.alloc (.cells #[.string ⟨s.toArray⟩] 9)).alloc (.cells #[.string ⟨#[10]⟩] 9)).alloc (.cells #[.int .i64 0] 3) := by
  have h : ∀ w, Calls Tryz.prog 51 #[.string ⟨s.toArray⟩, .string ⟨#[10]⟩, .int .i64 0] w fun e w' => e = .returned (.func (.func 65) #[] #[.pointer (some ⟨w.heap.size + 1, 0, none⟩), .pointer (some ⟨w.heap.size, 0, none⟩), .pointer (some ⟨w.heap.size + 2, 0, none⟩)]) ∧ w' = ((w.alloc (.cells #[.string ⟨s.toArray⟩] 9)).alloc (.cells #[.string ⟨#[10]⟩] 9)).alloc (.cells #[.int .i64 0] 3) := by
    intro w
    go_enter Tryz.func51, Tryz.ntmps51
    go_wp2
    go_ret
    simp
  have H := Lib.hid h
  clear h
  go_enter Tryz.func36, Tryz.ntmps36
  go_wp2_with (first
    | (go_at_call 51; refine (H.out _).mono ?_; rintro e w2 ⟨rfl, h2⟩; have H2 := Lib.hid h2; clear h2))
  go_ret
  exact ⟨rfl, H2.out⟩
def boxLen (w : World) (b : Nat) : Nat := match w.cell? ⟨b, 0, none⟩ with | some v => strLen v | none => 0
theorem boxLen_mk {w : World} {b : Nat} {l : List UInt8} (h : Boxed w b 9 (.string ⟨l.toArray⟩)) : boxLen w b = l.length := by unfold boxLen; rw [h.cell]; rfl
theorem split_idx (r : List UInt8) (w : World) : Calls Tryz.prog 67 #[.string ⟨r.toArray⟩, .string ⟨#[10]⟩] w fun e w' => e = .returned (.int .i64 (match idx 10 r with | none => -1 | some k => (k : Int))) ∧ w' = w :=
  (Tryz.strings_Index_one ⟨r.toArray⟩ 10 w).mono fun _ _ ⟨he, hw⟩ => ⟨by rw [he]; exact congrArg (fun z => Ending.returned (.int .i64 z)) (lib_idx r 10), hw⟩
/-- how it stands in the iterator. -/
structure SpRel (W : World) (b : Nat) (s : List UInt8) (L : List (List UInt8)) (J : Nat → World → Prop) (i : Nat) (r : List UInt8) (wr : World) : Prop where
  bs : Boxed wr b 9 (.string ⟨r.toArray⟩)
  bp : Boxed wr (b + 1) 9 (.string ⟨#[10]⟩)
  bv : Boxed wr (b + 2) 3 (.int .i64 0)
  len : r.length ≤ s.length
  lt : i < L.length
  is : L.drop i = spB 10 [] r
  j : J i wr
attribute [local go_sem] Oper.semAt_some
set_option maxRecDepth 100000 in
set_option maxHeartbeats 4000000 in
theorem split_seq (s : List UInt8) (b : Nat) (w : World) (h1 : Boxed w b 9 (.string ⟨s.toArray⟩)) (h2 : Boxed w (b + 1) 9 (.string ⟨#[10]⟩)) (h3 : Boxed w (b + 2) 3 (.int .i64 0)) (hl : s.length ≤ 1000000) :
    SeqD Tryz.prog 65 #[.pointer (some ⟨b + 1, 0, none⟩), .pointer (some ⟨b, 0, none⟩), .pointer (some ⟨b + 2, 0, none⟩)] (fun (c : List UInt8) args _ => args = #[.string ⟨c.toArray⟩]) (KpS b) b 9 (linL s) w := by
  intro l J Jx W hW hJ hJx hX hY h0
  have HB1 : Boxed W b 9 (.string ⟨s.toArray⟩) := (hW.block b h1.lt).trans h1
  have HB2 : Boxed W (b + 1) 9 (.string ⟨#[10]⟩) := (hW.block _ h2.lt).trans h2
  have HB3 : Boxed W (b + 2) 3 (.int .i64 0) := (hW.block _ h3.lt).trans h3
  obtain ⟨L, hL⟩ : ∃ L, linL s = L := ⟨_, rfl⟩
  have hpos : 0 < L.length := by rw [← hL]; exact spB_pos 10 s []
  rw [hL] at hY ⊢
  have HR0 : Hid (SpRel W b s L J 0 s W) := Lib.hid ⟨HB1, HB2, HB3, Nat.le_refl _, hpos, by rw [List.drop_zero]; exact hL.symm, h0⟩
  have HY := Lib.hid hY
  have HX := Lib.hid hX
  have hp0 : W.cell? ⟨b + 1, 0, none⟩ = some (.string ⟨#[10]⟩) := HB2.cell
  clear hY hJ hJx hX h0 hL h1 h2 h3 hW HB1 HB2 HB3 hpos
  refine callsIn_of_wp Tryz.func65 rfl trivial ?_ rfl
  simp only [Tryz.ntmps65, List.size_toArray, List.length_cons, List.length_nil, Nat.reduceAdd, Nat.reduceSub, Array.replicate_succ, Array.replicate_zero, List.push_toArray, List.append_toArray, List.nil_append, List.cons_append]
  gi_wp2
  gi_loopw [7, 8] (fun _ _ wr => ∃ (i : Nat) (r : List UInt8), SpRel W b s L J i r wr) (fun _ _ wr => boxLen wr b)
  case atStart => exact ⟨0, s, HR0.out⟩
  case round =>
    obtain ⟨i, r, hR⟩ := hrel
    have hcs := hR.bs.cell
    have hcp := hR.bp.cell
    have hcv := hR.bv.cell
    have hfs := hR.bs.frozen
    have hrl := hR.len
    have hil := hR.lt
    have hd := hR.is
    have HR := Lib.hid hR
    clear hR hp0
    cases hx : idx 10 r with
    | none =>
      have hsp := spB_none r [] hx
      rw [List.nil_append, ← hd] at hsp
      have HLi : Hid (L[i]? = some r) := Lib.hid (by rw [← List.head?_drop, hsp]; rfl)
      have hiE : i + 1 = L.length := by have := congrArg List.length hsp; simp at this; omega
      have HI := Lib.hid (split_idx r wr)
      rw [hx] at HI
      clear hx hsp hd
      gi_wp2
      refine ⟨trivial, rfl, ?_⟩
      gi_at_call 67
      refine (callsIn_wide.2 HI.out).mono ?_
      rintro e w2 ⟨rfl, hw2⟩
      have hw3 := hw2.symm
      subst hw3
      clear hw2
      obtain ⟨fn, tmps, assign, body, hy, hR2⟩ := HY.out i r _ _ HR.out.j HLi.out rfl
      have HR2 := Lib.hid hR2
      clear hR2
      gi_wp2
      refine ⟨rfl, HR2.out.mono ?_⟩
      rintro e W3 (⟨rfl, hJ3, _, _⟩ | ⟨rfl, hJx3, _⟩)
      · have HJ3 := Lib.hid hJ3
        clear hJ3
        gi_wp2
        go_end0
        exact ⟨⟨_, rfl⟩, .inl (by rw [← hiE]; exact HJ3.out)⟩
      · have HJx3 := Lib.hid hJx3
        clear hJx3
        gi_wp2
        go_end0
        exact ⟨⟨_, rfl⟩, .inr HJx3.out⟩
    | some k =>
      obtain ⟨hkr, -, -⟩ := idx_some hx
      have hsp := spB_some r [] k hx
      rw [List.nil_append, ← hd] at hsp
      have HLi : Hid (L[i]? = some (r.take k)) := Lib.hid (by rw [← List.head?_drop, hsp]; rfl)
      have hiE : i + 1 < L.length := by have := congrArg List.length hsp; have h2 := spB_pos 10 (r.drop (k + 1)) []; simp at this; omega
      have HNx : Hid (L.drop (i + 1) = spB 10 [] (r.drop (k + 1))) := Lib.hid (by rw [← List.drop_drop, hsp]; rfl)
      have HI := Lib.hid (split_idx r wr)
      rw [hx] at HI
      have hkI : (k : Int) < (r.length : Int) := by omega
      clear hx hsp hd
      gi_wp2
      refine ⟨trivial, rfl, ?_⟩
      gi_at_call 67
      refine (callsIn_wide.2 HI.out).mono ?_
      rintro e w2 ⟨rfl, hw2⟩
      have hw3 := hw2.symm
      subst hw3
      clear hw2
      obtain ⟨fn, tmps, assign, body, hy, hR2⟩ := HY.out i (r.take k) _ _ HR.out.j HLi.out rfl
      have HR2 := Lib.hid hR2
      clear hR2
      gi_wp2
      refine ⟨rfl, HR2.out.mono ?_⟩
      rintro e W3 (⟨rfl, hJ3, _, hk3⟩ | ⟨rfl, hJx3, _⟩)
      · have b1 := (hk3 _).1 HR.out.bs
        have b2 := (hk3 _).2.1 HR.out.bp
        have b3 := (hk3 _).2.2 HR.out.bv
        have HJ3 := Lib.hid hJ3
        have c1 := b1.cell
        have c2 := b2.cell
        have f1 := b1.frozen
        have B1 := Lib.hid b1
        have B2 := Lib.hid b2
        have B3 := Lib.hid b3
        clear hJ3 hk3 b1 b2 b3 hcs hcp hcv hfs
        gi_wp2
        go_roundw
        case rel =>
          have hS := Stays.cell W3 b 0 (.string ⟨(r.drop (k + 1)).toArray⟩)
          have hB1 := B1.out.set (.string ⟨(r.drop (k + 1)).toArray⟩)
          exact ⟨i + 1, r.drop (k + 1), hB1, (hS.block _ (by omega)).trans B2.out, (hS.block _ (by omega)).trans B3.out, by rw [List.length_drop]; omega, hiE, HNx.out, HX.out _ _ _ _ _ HJ3.out hS.grown B1.out hB1⟩
        case measure =>
          rw [boxLen_mk HR.out.bs, boxLen_mk (B1.out.set (.string ⟨(r.drop (k + 1)).toArray⟩)), List.length_drop]
          omega
      · have HJx3 := Lib.hid hJx3
        clear hJx3
        gi_wp2
        refine bodyPost_ret (results_none rfl _ _ _) rfl ?_
        exact ⟨⟨_, rfl⟩, .inr HJx3.out⟩
end Go.Proofs.YtgebcifkbldfoaaGreatDoor
