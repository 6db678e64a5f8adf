/- Contracts and plain lemmas of our own, merged. -/
import Derived.Test.YtgebcifkbldfoaaDoorZHF11
import Derived.Test.YtgebcifkbldfoaaDoorZHF23
import Derived.Test.YtgebcifkbldfoaaDoorZHF24
import Derived.Test.YtgebcifkbldfoaaDoorZHF28
import Derived.Test.YtgebcifkbldfoaaDoorZHF29
import Derived.Test.YtgebcifkbldfoaaDoorZHF31
import Derived.Test.YtgebcifkbldfoaaDoorZHF5
/- hosts.Parse: what a file of hosts says. -/
namespace Go.Proofs.YtgebcifkbldfoaaDoor
open Go.RowKit
attribute [local go_sem] ba_get ext_take ext_drop ext_any ba_app

theorem heap_lt {W : World} {o : Obj} {g : Nat} (h : W.heap[g]? = some o) : g < W.heap.size := by
  rcases Nat.lt_or_ge g W.heap.size with hlt | hge
  · exact hlt
  · rw [Array.getElem?_eq_none hge] at h; cases h
/-- a block (if any) at or above b, none of these types' cells. -/
structure Harm (T : List TypeId) (b : Nat) (W : World) (row : Option Nat) : Prop where
  ge : ∀ r, row = some r → b ≤ r
  ne : ∀ g cur t fr, W.heap[g]? = some (.cells cur t fr) → t ∈ T → some g ≠ row
theorem Harm.loop {T : List TypeId} {B b : Nat} {W : World} {row : Option Nat} (hb : b ≤ B) (hr : ∀ r, row = some r → B ≤ r ∧ ∃ o : Obj, W.heap[r]? = some o ∧ o.isCells = false) : Harm T b W row := by
  refine ⟨fun r e => Nat.le_trans hb (hr r e).1, fun g cur t fr hg _ e => ?_⟩
  obtain ⟨_, o, h1, h2⟩ := hr g e.symm
  rw [hg] at h1
  cases h1
  cases h2
theorem Harm.type {T : List TypeId} {b g : Nat} {W : World} {cs : Array Value} {t' : TypeId} {fr' : Nat × Nat} (hb : b ≤ g) (hB : W.heap[g]? = some (.cells cs t' fr')) (hT : t' ∉ T) : Harm T b W (some g) := by
  refine ⟨fun r e => by cases e; exact hb, fun k cur t fr hk ht e => ?_⟩
  cases e
  rw [hk] at hB
  cases hB
  exact hT ht
theorem Harm.own {T : List TypeId} {b b' size n : Nat} {e : TypeId} {W : World} {v : Value} {xs : List Value} (hb : b ≤ b') (h : W.ownsRow b' e size v n xs) (hT : e ∉ T) : Harm T b W v.ownBlock := by
  rcases h.2 with ⟨rfl, _⟩ | ⟨g', cap, cur, rfl, hb', hg', _⟩
  · exact ⟨(fun r e => by cases e), (fun g cur t fr hg _ e => by cases e)⟩
  · exact Harm.type (Nat.le_trans hb hb') hg' hT
theorem Harm.mono {T T' : List TypeId} {b b' : Nat} {W : World} {row : Option Nat} (h : Harm T b W row) (hT : ∀ t ∈ T', t ∈ T) (hb : b' ≤ b) : Harm T' b' W row := ⟨fun r e => Nat.le_trans hb (h.ge r e), fun g cur t fr hg ht => h.ne g cur t fr hg (hT t ht)⟩
theorem Stays.grown {g : Nat} {w w' : World} (h : Stays g w w') : w.grownBy w' (some g) := ⟨h.os, h.tape, h.output, Nat.le_of_eq h.size.symm, fun k _ hne => h.block k (fun e => hne (by rw [e]))⟩
section
variable {b size n : Nat} {t e : TypeId} {W W' : World} {v : Value} {xs : List Value} {row : Option Nat}
theorem SlB.kept (hs : SlB b t W size v n xs) (hg : W.grownBy W' row) (hh : Harm [t] b W row) : SlB b t W' size v n xs := by
  have key : ∀ g off c, v = .slice (some ⟨g, off, none⟩) n c → 0 < n → some g ≠ row := by
    intro g off c hv hn hgo
    rcases hs.far g off c hv hn with hl | ⟨cur2, fr, h2⟩
    · have := hh.ge g hgo.symm; omega
    · exact hh.ne g cur2 t fr h2 (by simp) hgo
  refine ⟨?_, fun g off c hv hn => ?_⟩
  · obtain ⟨h0, A, c, rfl, hc, hA, hcell⟩ := hs.sl
    refine ⟨h0, A, c, rfl, hc, hA, fun ad had hn => ?_⟩
    obtain ⟨h1, h2, h3⟩ := hcell ad had hn
    obtain ⟨g, off, sp⟩ := ad
    dsimp only at h1 h2 h3
    subst had h2
    exact ⟨Nat.lt_of_lt_of_le h1 hg.size, rfl, fun j u hu => hg.cell (h3 j u hu) (key g off c rfl hn)⟩
  · rcases hs.far g off c hv hn with hl | ⟨cur, fr, hh2⟩
    · exact .inl hl
    · exact .inr ⟨cur, fr, (hg.block g (heap_lt hh2) (key g off c hv hn)).trans hh2⟩
theorem NmB.kept {q : Value × NmL} (hs : NmB b W q) (hg : W.grownBy W' row) (hh : Harm [9] b W row) : NmB b W' q := ⟨hs.sl.kept hg hh, hs.few, hs.len⟩
theorem HoB.kept {h : Ho} (hs : HoB b W h) (hg : W.grownBy W' row) (hh : Harm [51, 9] b W row) : HoB b W' h :=
  ⟨hs.sl.kept hg (hh.mono (by simp) (Nat.le_refl _)), fun q hq => (hs.nm q hq).kept hg (hh.mono (by simp) (Nat.le_refl _)), hs.few⟩
theorem row_kept (hs : W.ownsRow b e size v n xs) (hg : W.grownBy W' row) (hh : Harm [e] b W row) : W'.ownsRow b e size v n xs := by
  refine hs.kept hg ?_
  rcases hs.2 with ⟨rfl, _⟩ | ⟨g', cap, cur, rfl, hb', hg', _⟩
  · exact .inl rfl
  · refine .inr ?_
    have := hh.ne _ _ _ _ hg' (by simp)
    simpa [Value.ownBlock] using this
theorem HosOwn.kept {H : List Ho} (hs : HosOwn b W v H) (hg : W.grownBy W' row) (hh : Harm [106, 51, 9] b W row) : HosOwn b W' v H :=
  ⟨row_kept hs.own hg (hh.mono (by simp) (Nat.le_refl _)), fun q hq => (hs.ok q hq).kept hg (hh.mono (by simp) (Nat.le_refl _))⟩
theorem Below.kept {w : World} (hs : Below b w W) (hw : b ≤ W.heap.size) (hg : W.grownBy W' row) {T : List TypeId} (hh : Harm T b W row) : Below b w W' := hs.grown hg hw (fun k hk => hh.ge k hk)
theorem keeps_cells {B r : Nat} {cur : Array Value} {fr : Nat × Nat} (hg : W.grownBy W' (some r)) (hr : W.heap[r]? = some (.cells cur t fr)) : KeepsFrom B W W' := by
  refine ⟨hg.size, fun k o _ ho hc => (hg.block k (heap_lt ho) ?_).trans ho⟩
  intro h
  injection h with h
  subst h
  rw [hr] at ho
  cases ho
  cases hc
theorem keeps_row {B : Nat} (hs : W.ownsRow b e size v n xs) (hg : W.grownBy W' v.ownBlock) : KeepsFrom B W W' := by
  rcases hs.2 with ⟨rfl, _⟩ | ⟨g', cap, cur, rfl, hb', hg', _⟩
  · exact KeepsFrom.of_grownBy hg (fun r e => by cases e)
  · exact keeps_cells hg hg'
theorem KpA.harm (hg : W.grownBy W' row) (hh : Harm [4, 121] b W row) : KpA W W' :=
  KpA.grown hg (fun r e t u hB => ⟨fun h => hh.ne r _ t _ (show W.heap[r]? = _ from hB) (by simp [h]) e.symm, fun h => hh.ne r _ t _ (show W.heap[r]? = _ from hB) (by simp [h]) e.symm⟩)
end
theorem filterMap_one {α β : Type} (f : α → Option β) (x : α) : [x].filterMap f = (f x).toList := by
  cases h : f x with
  | none => rw [List.filterMap_cons_none h]; rfl
  | some y => rw [List.filterMap_cons_some h]; rfl
attribute [local go_sem] Oper.semAt_some
/-- hosts.host at any fields. -/
theorem host_any (v : Value) (F : List (List UInt8)) (w : World) (ht : Tab w) (hm : MaxI w) (hs : Sl w 1 v F.length (F.map stv)) (h2 : F.length ≤ 100000) (hb : ∀ x ∈ F, x.length ≤ 1000000) :
    Calls Tryd.prog 63 #[v] w (HostPost w (hostP F)) := by
  by_cases hl : F.length < 2
  · exact hostF_short v F w hs hl
  · exact hostF_long v F (F.length - 1) w ht hm hs (by omega) (by omega) (by omega) hb
/-- the hosts that a text says. -/
def hosP (s : List UInt8) : List (Ad × List NmL) := (alL true s).filterMap fun c => hostP c.2
def HosPost (w : World) (S : List (Ad × List NmL)) (e : Ending) (w' : World) : Prop := ∃ v H, e = .returned v ∧ HosOwn w.heap.size w' v H ∧ H.map hoP = S ∧ Below w.heap.size w w' ∧ ∀ h ∈ H, HoB 0 w' h
/-- behind i of the lines. -/
def HosI (w : World) (g3 : Nat) (S : List (Nat × List (List UInt8))) (i : Nat) (V : World) : Prop :=
  ∃ v H, Boxed V g3 45 v ∧ HosOwn w.heap.size V v H ∧ H.map hoP = (S.take i).filterMap (fun c => hostP c.2) ∧ Below w.heap.size w V ∧ ∀ h ∈ H, HoB 0 V h
theorem HosI.kept {w : World} {g3 i : Nat} {S : List (Nat × List (List UInt8))} {W W' : World} {row : Option Nat} (h : HosI w g3 S i W) (hg : W.grownBy W' row) (hh : Harm [106, 51, 9] w.heap.size W row) (hne : some g3 ≠ row) : HosI w g3 S i W' := by
  obtain ⟨v, H, h1, h2, h3, h4, h5⟩ := h
  exact ⟨v, H, (hg.block g3 h1.lt hne).trans h1, h2.kept hg hh, h3, Below.kept h4 h4.size hg hh, fun q hq => (h5 q hq).kept hg (hh.mono (by simp) (Nat.zero_le _))⟩
set_option maxRecDepth 100000 in
set_option maxHeartbeats 4000000 in
theorem hparse_any (s : List UInt8) (w : World) (ht : Tab w) (hm : MaxI w) (hl : s.length ≤ 100000) : Calls Tryd.prog 26 #[.string ⟨s.toArray⟩] w (HosPost w (hosP s)) := by
  refine (callsIn_wide (n := 0)).1 ?_
  refine callsIn_of_wp_marks Tryd.func26 rfl trivial ?_ rfl
  simp only [Tryd.ntmps26, List.size_toArray, List.length_cons, List.length_nil, Nat.reduceAdd, Nat.reduceSub, Array.replicate_succ, Array.replicate_zero, List.push_toArray, List.append_toArray, List.nil_append, List.cons_append]
  gi_wp2
  refine ⟨trivial, rfl, ?_⟩
  gi_at_call 46
  refine (callsIn_wide.2 (lall_any s true _)).mono ?_
  rintro e w2 ⟨rfl, hw2⟩
  obtain ⟨g3, hg3⟩ : ∃ g, g = w.heap.size := ⟨_, rfl⟩
  obtain ⟨b4, hb4⟩ : ∃ b, b = (w.alloc (.cells #[.slice none 0 0] 45)).heap.size := ⟨_, rfl⟩
  rw [← hg3, ← hb4]
  have B3 : Boxed w2 g3 45 (.slice none 0 0) := by rw [hw2, hg3]; exact ((Boxed.new w _ _).alloc _).alloc _
  have Bs : Boxed w2 b4 9 (stv s) := by rw [hw2, hb4]; exact (Boxed.new _ _ _).alloc _
  have Bb : Boxed w2 (b4 + 1) 4 (.bool true) := by
    rw [hw2, hb4, ← World.size_alloc (w.alloc (.cells #[.slice none 0 0] 45)) (.cells #[.string ⟨s.toArray⟩] 9)]
    exact Boxed.new _ _ _
  have hb02 : Below w.heap.size w w2 := by rw [hw2]; exact (((Below.refl _ w).alloc (Nat.le_refl _) _).alloc (by simp) _).alloc (by simp; omega) _
  have hts : s.length + 1 ≤ 100001 := by omega
  have Hlen := Lib.hid (alL_len true s)
  have hg3l : w.heap.size ≤ g3 := by omega
  have Hb02 := Lib.hid hb02
  have Ht := Lib.hid ht
  have Hm := Lib.hid hm
  have hg3w : g3 < w2.heap.size := B3.lt
  clear hw2 hb4 hg3 hb02 ht hm
  gi_wp2
  refine range_seqC (gf := 76) (lb := #[.pointer (some ⟨b4, 0, none⟩), .pointer (some ⟨b4 + 1, 0, none⟩)]) rfl (enters_of Tryd.func76 (by kernel_rfl) rfl) (all_seq true s b4 (b4 + 1) w2 Bs Bb (by omega)) (Below.refl _ _) (fun h k => KpA.trans h k) (fun W l o o' h hc => KpA.put W l o o' h hc)
    (fun c args V he => by obtain ⟨v, h, _⟩ := he; rw [h]; rfl) (fun c args => encA_own _ c args)
    (fun i V => HosI w g3 (alL true s) i V)
    (fun _ _ => False)
    (fun i X Y row hs hg hr => hs.kept hg (Harm.loop (by omega) hr) (fun e => by have := (hr _ e.symm).1; omega)) (fun c => ownFrom_pure _ (fun _ => False))
    ⟨_, [], B3, HosOwn.nil _ _, rfl, Hb02.out, fun _ h => (by cases h)⟩
    (fun args => { tmps := #[.string ⟨s.toArray⟩, undef, .slice none 0 0, .pointer (some ⟨g3, 0, none⟩), undef, args.getD 1 undef, undef, undef, .string ⟨s.toArray⟩, .func (.func 76) #[] #[.pointer (some ⟨b4, 0, none⟩), .pointer (some ⟨b4 + 1, 0, none⟩)], args.getD 0 undef, args.getD 1 undef, undef, undef, undef, undef, undef, undef, undef, undef, undef, undef, undef], defers := [] }) ?assign ?body ?done ?stop
  case assign =>
    intro l2 c args V K he hK
    obtain ⟨v, rfl, _⟩ := he
    gi_wp2
    exact hK
  case body =>
    rintro l2 i c args V hl2 ⟨r, hr⟩ ⟨v, H, hbx, hown, his, hbel, hz⟩ hc he
    obtain ⟨va, rfl, hsl⟩ := he
    have hbd := alL_bd hc
    have HX := Lib.hid (host_any va c.2 V (Ht.out.below hbel) (Hm.out.below hbel) hsl (by omega) (fun x hx => by have := hbd.2 x hx; omega))
    have hHl : H.length ≤ 100001 := by
      have h := congrArg List.length his
      rw [List.length_map] at h
      have h2 := List.length_filterMap_le (fun c : Nat × List (List UInt8) => hostP c.2) ((alL true s).take i)
      have h3 := List.length_take_le' i (alL true s)
      have h4 := Hlen.out
      omega
    have hnx : (alL true s).take (i + 1) = (alL true s).take i ++ [c] := by
      obtain ⟨hi, hx⟩ := List.getElem?_eq_some_iff.1 hc
      rw [List.take_succ_eq_append_getElem hi, hx]
    have Hnx := Lib.hid hnx
    have His := Lib.hid his
    have Hown := Lib.hid hown
    have Hbx := Lib.hid hbx
    have Hbel := Lib.hid hbel
    have Hz := Lib.hid hz
    have hVw := hbel.size
    clear hnx his hown hbx hbel hsl hc hbd hr hz
    obtain ⟨A, cp, rfl⟩ := own_any Hown.out.own
    gi_wp2
    refine ⟨trivial, rfl, ?_⟩
    gi_at_call 63
    refine (CallsIn.inRound l2 (callsIn_wide.2 HX.out)).mono ?_
    rintro e w5 ⟨hb5, hpost⟩
    cases hho : hostP c.2 with
    | none =>
      rw [hho] at hpost
      obtain rfl := hpost
      have HK : Hid (((alL true s).take (i + 1)).filterMap (fun c => hostP c.2) = ((alL true s).take i).filterMap (fun c => hostP c.2)) := Lib.hid (by rw [Hnx.out, List.filterMap_append, filterMap_one, hho]; exact List.append_nil _)
      have Hb5 := Lib.hid hb5
      clear hho hb5 HX Hnx
      gi_wp2_with (refine wpListIn_of (fun ⟨_, _, h⟩ => h) _ _ _ rfl ?_)
      go_wp2_with (first
        | ((with_reducible show wpList _ _ _ (⟨some 6, _, _, _, _, _⟩ :: _) _ _); refine wpList_alloc_ho (o := ⟨some 6, _, _, _, _, _⟩) rfl rfl ?_; intro g6 w6 hg hB6 hb6 hs; have Hg6 := Lib.hid hg; clear hs hg)
        | ((with_reducible refine wpList_store_ho (o := ⟨none, _, _, _, _, _⟩) rfl (.tmp 6) _ rfl rfl rfl hB6 ?_); intro w7 hB7 hS7))
      have hb57 : Below V.heap.size V w7 := (Hb5.out.trans (hb6.mono Hb5.out.size)).trans (hS7.below (by have := Hg6.out; have := Hb5.out.size; omega))
      have Hb57 := Lib.hid hb57
      clear hB6 hb6 hB7 hS7 hb57 Hb5
      gi_wp2
      exact ⟨keeps_below Hb57.out, KpA.below Hb57.out, _, H, (Hb57.out.block _ Hbx.out.lt).trans Hbx.out, Hown.out.bel Hb57.out, by rw [HK.out]; exact His.out, Hbel.out.trans (Hb57.out.mono hVw), fun q hq => (Hz.out q hq).bel Hb57.out⟩
    | some p =>
      rw [hho] at hpost
      obtain ⟨h, rfl, hok, hp⟩ := hpost
      have HK : Hid (((alL true s).take (i + 1)).filterMap (fun c => hostP c.2) = ((alL true s).take i).filterMap (fun c => hostP c.2) ++ [hoP h]) := Lib.hid (by rw [Hnx.out, List.filterMap_append, filterMap_one, hho, hp]; rfl)
      have Hok := Lib.hid (hok 0)
      have Hb5 := Lib.hid hb5
      clear hho hb5 HX Hnx hok hp
      gi_wp2_with (refine wpListIn_of (fun ⟨_, _, h⟩ => h) _ _ _ rfl ?_)
      go_wp2_with (first
        | ((with_reducible show wpList _ _ _ (⟨some 6, _, _, _, _, _⟩ :: _) _ _); refine wpList_alloc_ho (o := ⟨some 6, _, _, _, _, _⟩) rfl rfl ?_; intro g6 w6 hg hB6 hb6 hs; have Hg6 := Lib.hid hg; clear hs hg)
        | ((with_reducible refine wpList_store_ho (o := ⟨none, _, _, _, _, _⟩) rfl (.tmp 6) _ rfl rfl rfl hB6 ?_); intro w7 hB7 hS7))
      have hb57 : Below V.heap.size V w7 := (Hb5.out.trans (hb6.mono Hb5.out.size)).trans (hS7.below (by have := Hg6.out; have := Hb5.out.size; omega))
      have hok7 : HoB 0 w7 h := (Hok.out.bel hb6).kept hS7.grown (Harm.type (Nat.zero_le _) (show w6.heap[g6]? = _ from hB6) (by decide))
      have bx7 : Boxed w7 g3 45 (.slice A H.length cp) := (hb57.block _ Hbx.out.lt).trans Hbx.out
      have Hb57 := Lib.hid hb57
      have Hok7 := Lib.hid hok7
      have c7 := bx7.cell
      have Bx7 := Lib.hid bx7
      have hown7 := Hown.out.bel hb57
      clear hB6 hb6 hS7 hb57 hok7 bx7 Hb5 Hok Hg6
      gi_wp2_with (((with_reducible show wpListIn _ _ _ _ _ (⟨some 18, _, _, _, _, _⟩ :: _) _ _); refine wpListIn_of (fun ⟨_, _, h⟩ => h) _ _ _ rfl ?_))
      go_wp2_with (first
        | ((with_reducible show wpList _ _ _ (⟨some 19, _, _, _, _, _⟩ :: _) _ _); refine wpList_load_ho (o := ⟨some 19, _, _, _, _, _⟩) rfl _ rfl rfl hB7 ?_)
        | ((with_reducible show wpList _ _ _ (⟨some 20, _, _, _, _, _⟩ :: _) _ _); refine wpList_lit (o := ⟨some 20, _, _, _, _, _⟩) rfl _ _ rfl elt_hos [.agg (hoA h)] rfl (by decide) (by decide) (fun v hv => by rw [List.mem_singleton.1 hv]; exact hoA_size _) rfl ?_; intro w8 hB8 hx8 hb8 hs8; clear hx8 hs8; have hB8 := bk_list (l := hoL h) hB8 rfl)
        | (at_builtin; refine wpList_app rfl (.tmp 18) (.tmp 20) _ rfl elt_hos rfl (own_below hown7.own hb8) rfl (hB8.sl (size := 19) (n := 1) (hoL_len _) 1 (Nat.le_refl _)) (hoL_one _) (Nat.le_trans hVw (Nat.le_trans Hb57.out.size hb8.size)) (by omega) (by omega) ?_; intro v9 w9 ho9 hb9 hg9; obtain ⟨A9, q9, rfl⟩ := own_any ho9
           have B9 : Bk w9 g3 45 #[.slice A H.length cp] := (Bk.bel Bx7.out hb8).grown hg9 (own_neBk (own_below hown7.own hb8) (Bk.bel Bx7.out hb8) (by decide))
           have c9 : w9.cell? ⟨g3, 0, none⟩ = some (.slice A H.length cp) := B9.cell 0
           have f9 := B9.free 0
           have HB9 := Lib.hid B9
           clear B9 c7))
      have hS := Stays.cell w9 g3 0 (.slice A9 (H.length + 1) q9)
      have o8 := own_below hown7.own hb8
      have hb59 : Below w.heap.size w w9 := ((Hbel.out.trans (Hb57.out.mono hVw)).trans (hb8.mono (Nat.le_trans hVw Hb57.out.size))).trans hb9
      refine ⟨(((keeps_below Hb57.out).trans (keeps_below hb8)).trans (keeps_row o8 hg9)).trans (keeps_cells hS.grown HB9.out), (((KpA.below Hb57.out).trans (KpA.below hb8)).trans (KpA.harm hg9 (Harm.own (Nat.le_refl _) o8 (by decide)))).trans (KpA.harm hS.grown (Harm.type (Nat.le_refl _) HB9.out (by decide))), _, H ++ [h], HB9.out.set_ 0 _, ?_, ?_, hb59.trans (hS.below hg3l), fun q hq => ?_⟩
      · exact (((hown7.bel hb8).add ((Hok7.out.any _).bel hb8) ho9 hg9)).kept hS.grown (Harm.type hg3l HB9.out (by decide))
      · rw [HK.out, List.map_append, His.out]
        rfl
      · refine HoB.kept ?_ hS.grown (Harm.type (Nat.zero_le _) HB9.out (by decide))
        have o80 := own_base o8 (Nat.zero_le _)
        rcases List.mem_append.1 hq with hq | hq
        · exact (((Hz.out q hq).bel Hb57.out).bel hb8).grown o80 hg9
        · rw [List.mem_singleton.1 hq]; exact (Hok7.out.bel hb8).grown o80 hg9
  case done =>
    rintro D V hD ⟨v, H, hbx, hown, his, hbel, hz⟩ hK
    obtain ⟨A, cp, rfl⟩ := own_any hown.own
    have hc3 := Boxed.cell hbx
    have Hown := Lib.hid hown
    have His := Lib.hid his
    have Hbel := Lib.hid hbel
    have Hz := Lib.hid hz
    clear hown his hbel hbx hz
    gi_wp2
    refine ⟨by simp, .inl ⟨_, _, rfl, run_takeDeferred hK, ?_⟩⟩
    have hg := grownBy_putObj' V D (.deferred none)
    have hh : ∀ T, Harm T w.heap.size V (some D) := fun T => Harm.loop (B := w.heap.size) (Nat.le_refl _) (fun r e => by cases e; exact ⟨by omega, _, hK, rfl⟩)
    refine ⟨_, results_tmp rfl _ _ _, .slice A H.length cp, H, rfl, Hown.out.kept hg (hh _), ?_, Below.kept Hbel.out Hbel.out.size hg (hh []), fun q hq => (Hz.out q hq).kept hg ((hh _).mono (fun _ h => h) (Nat.zero_le _))⟩
    rw [His.out, List.take_length]
    rfl
  case stop =>
    rintro D c V hD hx hK
    exact hx.elim
end Go.Proofs.YtgebcifkbldfoaaDoor

/- hosts.has, the reference's named and Has (18). -/
namespace Go.Proofs.YtgebcifkbldfoaaDoor
open Go.RowKit

/-- a name that is not too long. -/
def ShN (n : NmL) : Prop := n.length ≤ 1000000 ∧ ∀ l ∈ n, l.length ≤ 1000000
/-- has one of the names this text? -/
def hasN (S : List NmL) (n : NmL) : Bool := S.any (fun m => decide (lows m = lows n))
theorem hasN_step {L : List (Value × NmL)} {n : NmL} {k : Nat} (h : k < L.length) (ha : ((L.take k).map (·.2)).any (fun m => decide (lows m = lows n)) = false) : ((L.take (k + 1)).map (·.2)).any (fun m => decide (lows m = lows n)) = decide (lows L[k].2 = lows n) := by
  rw [List.take_succ_eq_append_getElem h, List.map_append, List.any_append, ha]
  simp
theorem hasN_yes {L : List (Value × NmL)} {n : NmL} {k : Nat} (h : k < L.length) (hd : lows L[k].2 = lows n) : hasN (L.map (·.2)) n = true :=
  List.any_eq_true.2 ⟨L[k].2, List.mem_map.2 ⟨L[k], List.getElem_mem h, rfl⟩, by simpa using hd⟩
set_option maxRecDepth 100000 in
set_option maxHeartbeats 2000000 in
theorem hhas_any (h : Ho) (n : NmL) (nv : Value) (w : World) (hok : HoOk w h) (hn : Sl w 1 nv n.length (n.map stv)) (hsh : ∀ q ∈ h.L, ShN q.2) :
    Calls Tryd.prog 64 #[.agg (hoA h), nv] w fun e w' => e = .returned (.bool (hasN (h.L.map (·.2)) n)) ∧ Below w.heap.size w w' := by
  obtain ⟨na, nc, rfl, _⟩ := hn.any
  obtain ⟨hda, hA, hcp, L⟩ := h
  have Hsl : Hid (Sl w 1 (.slice hA L.length hcp) L.length (L.flatMap nmF)) := Lib.hid hok.sl
  have Hnm : Hid (∀ q ∈ L, NmOk w q) := Lib.hid hok.nm
  have hfew : L.length ≤ 1000000 := hok.few
  dsimp only at hsh
  show Calls Tryd.prog 64 _ w fun e w' => e = .returned (.bool (hasN (L.map (·.2)) n)) ∧ Below w.heap.size w w'
  have Hn := Lib.hid hn
  have Hsh := Lib.hid hsh
  clear hok hn hsh
  go_enter Tryd.func64, Tryd.ntmps64
  go_wp2_with (first
    | ((with_reducible show wpList _ _ _ (⟨some 2, _, _, _, _, _⟩ :: _) _ _); refine wpList_boxB (o := ⟨some 2, _, _, _, _, _⟩) rfl _ _ rfl rfl ?_; intro g2 w1 hg hB2 hb1 hs; have c18 : w1.cell? ⟨g2, 18, none⟩ = some (.slice hA L.length hcp) := (by rw [hB2.cell 18]; unfold hoA; rw [List.getElem?_toArray]; exact hoL_18 _); clear hg hs))
  have Hb1 := Lib.hid hb1
  have hBl := hB2.lt
  clear hB2 hb1 c18
  go_loopw [6, 10] (fun _ i wr => ∃ k : Nat, k ≤ L.length ∧ i = .int .i64 k ∧ (((L.take k).map (·.2)).any (fun m => decide (lows m = lows n)) = false) ∧ Below w.heap.size w wr) (fun _ i _ => L.length - (intOf i).toNat)
  case atStart => exact ⟨0, Nat.zero_le _, rfl, rfl, Hb1.out⟩
  case round =>
    obtain ⟨k, hk, rfl, ha, hbel⟩ := hrel
    have Ha := Lib.hid ha
    clear ha
    by_cases hlt : k < L.length
    · have hltI : (k : Int) < (L.length : Int) := by omega
      have Hlt := Lib.hid hltI
      have hk0 : (0 : Int) ≤ (k : Int) := by omega
      obtain ⟨b, off, c, hv, hc, hbl, hcell⟩ := Hsl.out.pos (by omega)
      have hR := range_of nmF_len hcell hlt
      have e1 : wr.cell? ⟨b, off + k, none⟩ = some L[k].1 := by
        have := (hbel.cell (p := ⟨b, off + k * 1 + 0, none⟩) hbl).trans (hR 0 _ rfl)
        simpa using this
      have hnm := (Hnm.out _ (List.getElem_mem hlt)).bel hbel
      have hs := Hsh.out _ (List.getElem_mem hlt)
      have Hst := Lib.hid (hasN_step hlt Ha.out)
      have Hyes := Lib.hid (hasN_yes (n := n) hlt)
      injection hv with hv1 _ hv2
      subst hv1 hv2
      generalize L[k] = q at *
      obtain ⟨qv, qn⟩ := q
      obtain ⟨qa, qc, hqv, _⟩ := hnm.sl.any
      dsimp only at hqv e1 hs
      subst hqv
      have HX := Lib.hid (dsame_any qn n _ _ wr hnm.sl (Hn.out.below hbel) (by have := hs.1; omega) (fun l hl => by have := hs.2 l hl; omega))
      dsimp only at HX
      clear hR hcell hnm hs
      cases hd : decide (lows qn = lows n)
      · have Hd := Lib.hid hd
        rw [hd] at HX
        clear hd
        go_wp2_with (first
          | (go_at_call 98; refine HX.out.mono ?_; rintro e w3 ⟨rfl, hb3⟩; have Hb3 := Lib.hid (hbel.trans (hb3.mono hbel.size)); clear hb3))
        go_roundw
        case rel => exact ⟨k + 1, by have := Hlt.out; omega, by go_num, Hst.out.trans Hd.out, Hb3.out⟩
        case measure => have := Hlt.out; (simp [intOf]) <;> omega
      · have Hd := Lib.hid hd
        rw [hd] at HX
        clear hd
        go_wp2_with (first
          | (go_at_call 98; refine HX.out.mono ?_; rintro e w3 ⟨rfl, hb3⟩; have Hb3 := Lib.hid (hbel.trans (hb3.mono hbel.size)); clear hb3))
        go_ret
        exact ⟨by rw [Hyes.out (by simpa using Hd.out)]; rfl, Hb3.out⟩
    · have hltI : ¬ (k : Int) < (L.length : Int) := by omega
      have hf : Hid (hasN (L.map (·.2)) n = false) := Lib.hid (by have h1 := Ha.out; rw [List.take_of_length_le (by omega)] at h1; exact h1)
      go_wp2
      go_ret
      exact ⟨by rw [hf.out]; rfl, hbel⟩
end Go.Proofs.YtgebcifkbldfoaaDoor

/- The reference's named and Has (18). -/
namespace Go.Proofs.YtgebcifkbldfoaaDoor
open Go.RowKit

set_option maxRecDepth 100000 in
set_option maxHeartbeats 2000000 in
theorem rnamed_any (h : Ho) (n : NmL) (nv : Value) (w : World) (hok : HoOk w h) (hn : Sl w 1 nv n.length (n.map stv)) (hsh : ∀ q ∈ h.L, ShN q.2) (hnn : ShN n) :
    Calls Tryd.prog 66 #[.agg (hoA h), nv] w fun e w' => e = .returned (.bool (hasN (h.L.map (·.2)) n)) ∧ Below w.heap.size w w' := by
  obtain ⟨na, nc, rfl, _⟩ := hn.any
  obtain ⟨hda, hA, hcp, L⟩ := h
  have Hsl : Hid (Sl w 1 (.slice hA L.length hcp) L.length (L.flatMap nmF)) := Lib.hid hok.sl
  have Hnm : Hid (∀ q ∈ L, NmOk w q) := Lib.hid hok.nm
  have hfew : L.length ≤ 1000000 := hok.few
  dsimp only at hsh
  show Calls Tryd.prog 66 _ w fun e w' => e = .returned (.bool (hasN (L.map (·.2)) n)) ∧ Below w.heap.size w w'
  have Hn := Lib.hid hn
  have Hsh := Lib.hid hsh
  have Hnn := Lib.hid hnn
  clear hok hn hsh hnn
  go_enter Tryd.func66, Tryd.ntmps66
  go_wp2_with (first
    | ((with_reducible show wpList _ _ _ (⟨some 2, _, _, _, _, _⟩ :: _) _ _); refine wpList_boxB (o := ⟨some 2, _, _, _, _, _⟩) rfl _ _ rfl rfl ?_; intro g2 w1 hg hB2 hb1 hs; clear hg hs))
  have Hb1 := Lib.hid hb1
  have HB2 := Lib.hid hB2
  have hBl := hB2.lt
  clear hB2 hb1
  go_loopw [5] (fun i wr => ∃ k : Nat, k ≤ L.length ∧ i = .int .i64 k ∧ (((L.take k).map (·.2)).any (fun m => decide (lows m = lows n)) = false) ∧ Below w1.heap.size w1 wr) (fun i _ => L.length - (intOf i).toNat)
  case atStart => exact ⟨0, Nat.zero_le _, rfl, rfl, Below.refl _ _⟩
  case round =>
    obtain ⟨k, hk, rfl, ha, hb1r⟩ := hrel
    have hbel : Below w.heap.size w wr := Hb1.out.trans (hb1r.mono Hb1.out.size)
    have hB := HB2.out.bel hb1r
    have c18 : wr.cell? ⟨g2, 18, none⟩ = some (.slice hA L.length hcp) := by rw [hB.cell 18]; unfold hoA; rw [List.getElem?_toArray]; exact hoL_18 _
    have Hb1r := Lib.hid hb1r
    have Ha := Lib.hid ha
    clear ha hB hb1r
    by_cases hlt : k < L.length
    · have hltI : (k : Int) < (L.length : Int) := by omega
      have Hlt := Lib.hid hltI
      have hk0 : (0 : Int) ≤ (k : Int) := by omega
      obtain ⟨b, off, c, hv, hc, hbl, hcell⟩ := Hsl.out.pos (by omega)
      have hR := range_of nmF_len hcell hlt
      have e1 : wr.cell? ⟨b, off + k, none⟩ = some L[k].1 := by
        have := (hbel.cell (p := ⟨b, off + k * 1 + 0, none⟩) hbl).trans (hR 0 _ rfl)
        simpa using this
      have hnm := (Hnm.out _ (List.getElem_mem hlt)).bel hbel
      have hs := Hsh.out _ (List.getElem_mem hlt)
      have Hst := Lib.hid (hasN_step hlt Ha.out)
      have Hyes := Lib.hid (hasN_yes (n := n) hlt)
      injection hv with hv1 _ hv2
      subst hv1 hv2
      generalize L[k] = q at *
      obtain ⟨qv, qn⟩ := q
      obtain ⟨qa, qc, hqv, _⟩ := hnm.sl.any
      dsimp only at hqv e1 hs
      subst hqv
      have HX := Lib.hid (rdsame_any qn n _ _ wr hnm.sl (Hn.out.below hbel) (by have := hs.1; omega) (by have := Hnn.out.1; omega) (fun l hl => by have := hs.2 l hl; omega) (fun l hl => by have := Hnn.out.2 l hl; omega))
      dsimp only at HX
      clear hR hcell hnm hs
      cases hd : decide (lows qn = lows n)
      · have Hd := Lib.hid hd
        rw [hd] at HX
        clear hd
        go_wp2_with (first
          | (go_at_call 99; refine HX.out.mono ?_; rintro e w3 ⟨rfl, hb3⟩; have Hb3 := Lib.hid (Hb1r.out.trans (hb3.mono Hb1r.out.size)); clear hb3))
        go_roundw
        case rel => exact ⟨k + 1, by have := Hlt.out; omega, by go_num, Hst.out.trans Hd.out, Hb3.out⟩
        case measure => have := Hlt.out; (simp [intOf]) <;> omega
      · have Hd := Lib.hid hd
        rw [hd] at HX
        clear hd
        go_wp2_with (first
          | (go_at_call 99; refine HX.out.mono ?_; rintro e w3 ⟨rfl, hb3⟩; have Hb3 := Lib.hid (hbel.trans (hb3.mono hbel.size)); clear hb3))
        go_ret
        exact ⟨by rw [Hyes.out (by simpa using Hd.out)]; rfl, Hb3.out⟩
    · have hltI : ¬ (k : Int) < (L.length : Int) := by omega
      have hf : Hid (hasN (L.map (·.2)) n = false) := Lib.hid (by have h1 := Ha.out; rw [List.take_of_length_le (by omega)] at h1; exact h1)
      go_wp2
      go_ret
      exact ⟨by rw [hf.out]; rfl, hbel⟩
theorem mem_step {L : List Ad} {a : Ad} {k : Nat} (h : k < L.length) (hn : a ∉ L.take k) (hd : L[k] ≠ a) : a ∉ L.take (k + 1) := by
  rw [List.take_succ_eq_append_getElem h]
  intro hm
  rcases List.mem_append.1 hm with hm | hm
  · exact hn hm
  · exact hd (List.mem_singleton.1 hm).symm
set_option maxRecDepth 100000 in
set_option maxHeartbeats 2000000 in
theorem rhas_any (L : List Ad) (a : Ad) (v : Value) (w : World) (hs : Sl w 18 v L.length (L.flatMap adL)) (hl : L.length ≤ 1000000) :
    Calls Tryd.prog 67 #[v, .agg (adA a)] w fun e w' => e = .returned (.bool (decide (a ∈ L))) ∧ Below w.heap.size w w' := by
  obtain ⟨A, c, rfl, _⟩ := hs.any
  have Hs := Lib.hid hs
  clear hs
  go_enter Tryd.func67, Tryd.ntmps67
  go_wp2_with (first
    | ((with_reducible show wpList _ _ _ (⟨some 3, _, _, _, _, _⟩ :: _) _ _); refine wpList_boxB (o := ⟨some 3, _, _, _, _, _⟩) rfl _ _ rfl rfl ?_; intro g3 w1 hg hB3 hb1 hs; clear hg hs))
  have Hb1 := Lib.hid hb1
  have HB3 := Lib.hid hB3
  have hBl := hB3.lt
  clear hB3 hb1
  go_loopw [5] (fun i wr => ∃ k : Nat, k ≤ L.length ∧ i = .int .i64 k ∧ a ∉ L.take k ∧ Below w1.heap.size w1 wr) (fun i _ => L.length - (intOf i).toNat)
  case atStart => exact ⟨0, Nat.zero_le _, rfl, by simp, Below.refl _ _⟩
  case round =>
    obtain ⟨k, hk, rfl, ha, hb1r⟩ := hrel
    have hbel : Below w.heap.size w wr := Hb1.out.trans (hb1r.mono Hb1.out.size)
    have hB := (HB3.out.bel hb1r).rangeAd
    have Hb1r := Lib.hid hb1r
    have Ha := Lib.hid ha
    clear ha hb1r
    by_cases hlt : k < L.length
    · have hltI : (k : Int) < (L.length : Int) := by omega
      have Hlt := Lib.hid hlt
      have hk0 : (0 : Int) ≤ (k : Int) := by omega
      obtain ⟨b, off, c', hv, hc, hbl, hcell⟩ := Hs.out.pos (by omega)
      have hR := range_bel hbel hbl (range_of adL_len hcell hlt)
      injection hv with hv1 _ hv2
      subst hv1 hv2
      have Hm := Lib.hid (List.getElem_mem hlt)
      have Hst := Lib.hid (mem_step hlt Ha.out)
      generalize L[k] = q at *
      clear hcell
      cases hd : decide (q = a)
      all_goals
        have Hd := Lib.hid hd
        clear hd
        go_wp2
        refine wp_region_bel (by kernel_rfl) (by kernel_rfl) ?_
        repeat (first
          | go_big_quiet_skip
          | (go_big_quiet_want; first
              | ((with_reducible show (⟨some 15, _, _, _, _, _⟩ : Oper).quiet _ _ _ _); refine quiet_loadAd (o := ⟨some 15, _, _, _, _, _⟩) _ rfl rfl hR (by simp only [Act.put, List.setIfInBounds_toArray, List.set_cons_succ, List.set_cons_zero]; exact rfl) ?_; go_big_quiet_on)
              | ((with_reducible show (⟨some 16, _, _, _, _, _⟩ : Oper).quiet _ _ _ _); refine quiet_loadAd (o := ⟨some 16, _, _, _, _, _⟩) _ rfl rfl hB (by simp only [Act.put, List.setIfInBounds_toArray, List.set_cons_succ, List.set_cons_zero]; exact rfl) ?_; go_big_quiet_on)
              | ((with_reducible show (⟨some 17, _, _, _, _, _⟩ : Oper).quiet _ _ _ _); refine quiet_eqlAd (o := ⟨some 17, _, _, _, _, _⟩) _ _ rfl rfl rfl Hd.out (by simp only [Act.put, List.setIfInBounds_toArray, List.set_cons_succ, List.set_cons_zero]; exact rfl) ?_; go_big_quiet_on)
              | (go_big_quiet_op; go_big_quiet_on)))
        refine wpQuiet_nil ?_
        rintro _ ⟨x, rfl⟩
        have Hx := Lib.hid (Hb1r.out.trans (x.bel.mono Hb1r.out.size))
        have Hx2 := Lib.hid (hbel.trans (x.bel.mono hbel.size))
        go_wp2
      · go_roundw
        case rel => exact ⟨k + 1, by have := Hlt.out; omega, by go_num, Hst.out (by simpa using Hd.out), Hx.out⟩
        case measure => have := Hlt.out; (simp [intOf]) <;> omega
      · go_ret
        refine ⟨retb ?_, Hx2.out⟩
        have he : q = a := by simpa using Hd.out
        rw [eq_comm, decide_eq_true_iff, ← he]
        exact Hm.out
    · have hltI : ¬ (k : Int) < (L.length : Int) := by omega
      have hf : Hid (decide (a ∈ L) = false) := Lib.hid (by have h1 := Ha.out; rw [List.take_of_length_le (by omega)] at h1; simpa using h1)
      go_wp2
      go_ret
      exact ⟨by rw [hf.out]; rfl, hbel⟩
end Go.Proofs.YtgebcifkbldfoaaDoor

/- The reference's Parse of hosts (18). -/
namespace Go.Proofs.YtgebcifkbldfoaaDoor
open Go.RowKit
attribute [local go_sem] ba_get ext_take ext_drop ext_any ba_app

/-- behind i of the lines, by the reference. -/
structure RhRel (w w2 : World) (S : List LnT) (k : Nat) (v : Value) (H : List Ho) (wr : World) : Prop where
  own : wr.ownsRow w2.heap.size 106 19 v H.length (H.flatMap hoL)
  ok : ∀ h ∈ H, HoB 0 wr h
  is : H.map hoP = (S.take k).filterMap (fun c => hostP c.2)
  b : Below w2.heap.size w2 wr
theorem RhRel.skip {w w2 wr w' : World} {S : List LnT} {k : Nat} {v : Value} {H : List Ho} (h : RhRel w w2 S k v H wr) (hb : Below wr.heap.size wr w') (hk : k < S.length) (hn : hostP S[k].2 = none) : RhRel w w2 S (k + 1) v H w' := by
  refine ⟨own_below h.own hb, fun q hq => (h.ok q hq).bel hb, ?_, h.b.trans (hb.mono h.b.size)⟩
  rw [List.take_succ_eq_append_getElem hk, List.filterMap_append, filterMap_one, hn, h.is]
  exact (List.append_nil _).symm
end Go.Proofs.YtgebcifkbldfoaaDoor
