/- Contracts and plain lemmas of our own, merged. -/
import Derived.Test.YtgebcifkbldfoaaDoorZHP11
import Derived.Test.YtgebcifkbldfoaaDoorZHP22
import Derived.Test.YtgebcifkbldfoaaDoorZHP23
import Derived.Test.YtgebcifkbldfoaaDoorZHP27
import Derived.Test.YtgebcifkbldfoaaDoorZHP28
import Derived.Test.YtgebcifkbldfoaaDoorZHP30
import Derived.Test.YtgebcifkbldfoaaDoorZHP5
/- hosts.Parse: what a file of hosts says. -/
namespace Go.Proofs.YtgebcifkbldfoaaDoor
open Go.RowKit
attribute [local go_sem] ba_get ext_take ext_drop ext_any ba_app

theorem heap_lt {W : World} {o : Obj} {g : Nat} (h : W.heap[g]? = some o) : g < W.heap.size := by
  rcases Nat.lt_or_ge g W.heap.size with hlt | hge
  · exact hlt
  · rw [Array.getElem?_eq_none hge] at h; cases h
/-- a block (if any) at or above b, none of these types' cells. -/
structure Harm (T : List TypeId) (b : Nat) (W : World) (row : Option Nat) : Prop where
  ge : ∀ r, row = some r → b ≤ r
  ne : ∀ g cur t fr, W.heap[g]? = some (.cells cur t fr) → t ∈ T → some g ≠ row
theorem Harm.loop {T : List TypeId} {B b : Nat} {W : World} {row : Option Nat} (hb : b ≤ B) (hr : ∀ r, row = some r → B ≤ r ∧ ∃ o : Obj, W.heap[r]? = some o ∧ o.isCells = false) : Harm T b W row := by
  refine ⟨fun r e => Nat.le_trans hb (hr r e).1, fun g cur t fr hg _ e => ?_⟩
  obtain ⟨_, o, h1, h2⟩ := hr g e.symm
  rw [hg] at h1
  cases h1
  cases h2
theorem Harm.type {T : List TypeId} {b g : Nat} {W : World} {cs : Array Value} {t' : TypeId} {fr' : Nat × Nat} (hb : b ≤ g) (hB : W.heap[g]? = some (.cells cs t' fr')) (hT : t' ∉ T) : Harm T b W (some g) := by
  refine ⟨fun r e => by cases e; exact hb, fun k cur t fr hk ht e => ?_⟩
  cases e
  rw [hk] at hB
  cases hB
  exact hT ht
theorem Harm.own {T : List TypeId} {b b' size n : Nat} {e : TypeId} {W : World} {v : Value} {xs : List Value} (hb : b ≤ b') (h : W.ownsRow b' e size v n xs) (hT : e ∉ T) : Harm T b W v.ownBlock := by
  rcases h.2 with ⟨rfl, _⟩ | ⟨g', cap, cur, rfl, hb', hg', _⟩
  · exact ⟨(fun r e => by cases e), (fun g cur t fr hg _ e => by cases e)⟩
  · exact Harm.type (Nat.le_trans hb hb') hg' hT
theorem Harm.mono {T T' : List TypeId} {b b' : Nat} {W : World} {row : Option Nat} (h : Harm T b W row) (hT : ∀ t ∈ T', t ∈ T) (hb : b' ≤ b) : Harm T' b' W row := ⟨fun r e => Nat.le_trans hb (h.ge r e), fun g cur t fr hg ht => h.ne g cur t fr hg (hT t ht)⟩
theorem Stays.grown {g : Nat} {w w' : World} (h : Stays g w w') : w.grownBy w' (some g) := ⟨h.os, h.tape, h.output, Nat.le_of_eq h.size.symm, fun k _ hne => h.block k (fun e => hne (by rw [e]))⟩
section
variable {b size n : Nat} {t e : TypeId} {W W' : World} {v : Value} {xs : List Value} {row : Option Nat}
theorem SlB.kept (hs : SlB b t W size v n xs) (hg : W.grownBy W' row) (hh : Harm [t] b W row) : SlB b t W' size v n xs := by
  have key : ∀ g off c, v = .slice (some ⟨g, off, none⟩) n c → 0 < n → some g ≠ row := by
    intro g off c hv hn hgo
    rcases hs.far g off c hv hn with hl | ⟨cur2, fr, h2⟩
    · have := hh.ge g hgo.symm; omega
    · exact hh.ne g cur2 t fr h2 (by simp) hgo
  refine ⟨?_, fun g off c hv hn => ?_⟩
  · obtain ⟨h0, A, c, rfl, hc, hA, hcell⟩ := hs.sl
    refine ⟨h0, A, c, rfl, hc, hA, fun ad had hn => ?_⟩
    obtain ⟨h1, h2, h3⟩ := hcell ad had hn
    obtain ⟨g, off, sp⟩ := ad
    dsimp only at h1 h2 h3
    subst had h2
    exact ⟨Nat.lt_of_lt_of_le h1 hg.size, rfl, fun j u hu => hg.cell (h3 j u hu) (key g off c rfl hn)⟩
  · rcases hs.far g off c hv hn with hl | ⟨cur, fr, hh2⟩
    · exact .inl hl
    · exact .inr ⟨cur, fr, (hg.block g (heap_lt hh2) (key g off c hv hn)).trans hh2⟩
theorem NmB.kept {q : Value × NmL} (hs : NmB b W q) (hg : W.grownBy W' row) (hh : Harm [9] b W row) : NmB b W' q := ⟨hs.sl.kept hg hh, hs.few, hs.len⟩
theorem HoB.kept {h : Ho} (hs : HoB b W h) (hg : W.grownBy W' row) (hh : Harm [51, 9] b W row) : HoB b W' h :=
  ⟨hs.sl.kept hg (hh.mono (by simp) (Nat.le_refl _)), fun q hq => (hs.nm q hq).kept hg (hh.mono (by simp) (Nat.le_refl _)), hs.few⟩
theorem row_kept (hs : W.ownsRow b e size v n xs) (hg : W.grownBy W' row) (hh : Harm [e] b W row) : W'.ownsRow b e size v n xs := by
  refine hs.kept hg ?_
  rcases hs.2 with ⟨rfl, _⟩ | ⟨g', cap, cur, rfl, hb', hg', _⟩
  · exact .inl rfl
  · refine .inr ?_
    have := hh.ne _ _ _ _ hg' (by simp)
    simpa [Value.ownBlock] using this
theorem HosOwn.kept {H : List Ho} (hs : HosOwn b W v H) (hg : W.grownBy W' row) (hh : Harm [106, 51, 9] b W row) : HosOwn b W' v H :=
  ⟨row_kept hs.own hg (hh.mono (by simp) (Nat.le_refl _)), fun q hq => (hs.ok q hq).kept hg (hh.mono (by simp) (Nat.le_refl _))⟩
theorem Below.kept {w : World} (hs : Below b w W) (hw : b ≤ W.heap.size) (hg : W.grownBy W' row) {T : List TypeId} (hh : Harm T b W row) : Below b w W' := hs.grown hg hw (fun k hk => hh.ge k hk)
theorem keeps_cells {B r : Nat} {cur : Array Value} {fr : Nat × Nat} (hg : W.grownBy W' (some r)) (hr : W.heap[r]? = some (.cells cur t fr)) : KeepsFrom B W W' := by
  refine ⟨hg.size, fun k o _ ho hc => (hg.block k (heap_lt ho) ?_).trans ho⟩
  intro h
  injection h with h
  subst h
  rw [hr] at ho
  cases ho
  cases hc
theorem keeps_row {B : Nat} (hs : W.ownsRow b e size v n xs) (hg : W.grownBy W' v.ownBlock) : KeepsFrom B W W' := by
  rcases hs.2 with ⟨rfl, _⟩ | ⟨g', cap, cur, rfl, hb', hg', _⟩
  · exact KeepsFrom.of_grownBy hg (fun r e => by cases e)
  · exact keeps_cells hg hg'
theorem KpA.harm (hg : W.grownBy W' row) (hh : Harm [4, 121] b W row) : KpA W W' :=
  KpA.grown hg (fun r e t u hB => ⟨fun h => hh.ne r _ t _ (show W.heap[r]? = _ from hB) (by simp [h]) e.symm, fun h => hh.ne r _ t _ (show W.heap[r]? = _ from hB) (by simp [h]) e.symm⟩)
end
theorem filterMap_one {α β : Type} (f : α → Option β) (x : α) : [x].filterMap f = (f x).toList := by
  cases h : f x with
  | none => rw [List.filterMap_cons_none h]; rfl
  | some y => rw [List.filterMap_cons_some h]; rfl
attribute [local go_sem] Oper.semAt_some
/-- hosts.host at any fields. -/
theorem host_any (v : Value) (F : List (List UInt8)) (w : World) (ht : Tab w) (hm : MaxI w) (hs : Sl w 1 v F.length (F.map stv)) (h2 : F.length ≤ 100000) (hb : ∀ x ∈ F, x.length ≤ 1000000) :
    Calls Tryd.prog 63 #[v] w (HostPost w (hostP F)) := by
  by_cases hl : F.length < 2
  · exact hostF_short v F w hs hl
  · exact hostF_long v F (F.length - 1) w ht hm hs (by omega) (by omega) (by omega) hb
/-- the hosts that a text says. -/
def hosP (s : List UInt8) : List (Ad × List NmL) := (alL true s).filterMap fun c => hostP c.2
def HosPost (w : World) (S : List (Ad × List NmL)) (e : Ending) (w' : World) : Prop := ∃ v H, e = .returned v ∧ HosOwn w.heap.size w' v H ∧ H.map hoP = S ∧ Below w.heap.size w w' ∧ ∀ h ∈ H, HoB 0 w' h
/-- behind i of the lines. -/
def HosI (w : World) (g3 : Nat) (S : List (Nat × List (List UInt8))) (i : Nat) (V : World) : Prop :=
  ∃ v H, Boxed V g3 45 v ∧ HosOwn w.heap.size V v H ∧ H.map hoP = (S.take i).filterMap (fun c => hostP c.2) ∧ Below w.heap.size w V ∧ ∀ h ∈ H, HoB 0 V h
theorem HosI.kept {w : World} {g3 i : Nat} {S : List (Nat × List (List UInt8))} {W W' : World} {row : Option Nat} (h : HosI w g3 S i W) (hg : W.grownBy W' row) (hh : Harm [106, 51, 9] w.heap.size W row) (hne : some g3 ≠ row) : HosI w g3 S i W' := by
  obtain ⟨v, H, h1, h2, h3, h4, h5⟩ := h
  exact ⟨v, H, (hg.block g3 h1.lt hne).trans h1, h2.kept hg hh, h3, Below.kept h4 h4.size hg hh, fun q hq => (h5 q hq).kept hg (hh.mono (by simp) (Nat.zero_le _))⟩
set_option maxRecDepth 100000 in
set_option maxHeartbeats 4000000 in
theorem hparse_any (s : List UInt8) (w : World) (ht : Tab w) (hm : MaxI w) (hl : s.length ≤ 100000) : Calls Tryd.prog 26 #[.string ⟨s.toArray⟩] w (HosPost w (hosP s)) := by
  refine (callsIn_wide (n := 0)).1 ?_
  refine callsIn_of_wp_marks Tryd.func26 rfl trivial ?_ rfl
  simp only [Tryd.ntmps26, List.size_toArray, List.length_cons, List.length_nil, Nat.reduceAdd, Nat.reduceSub, Array.replicate_succ, Array.replicate_zero, List.push_toArray, List.append_toArray, List.nil_append, List.cons_append]
  gi_wp2
  refine ⟨trivial, rfl, ?_⟩
  gi_at_call 46
  refine (callsIn_wide.2 (lall_any s true _)).mono ?_
  rintro e w2 ⟨rfl, hw2⟩
  obtain ⟨g3, hg3⟩ : ∃ g, g = w.heap.size := ⟨_, rfl⟩
  obtain ⟨b4, hb4⟩ : ∃ b, b = (w.alloc (.cells #[.slice none 0 0] 45)).heap.size := ⟨_, rfl⟩
  rw [← hg3, ← hb4]
  have B3 : Boxed w2 g3 45 (.slice none 0 0) := by rw [hw2, hg3]; exact ((Boxed.new w _ _).alloc _).alloc _
  have Bs : Boxed w2 b4 9 (stv s) := by rw [hw2, hb4]; exact (Boxed.new _ _ _).alloc _
  have Bb : Boxed w2 (b4 + 1) 4 (.bool true) := by
    rw [hw2, hb4, ← World.size_alloc (w.alloc (.cells #[.slice none 0 0] 45)) (.cells #[.string ⟨s.toArray⟩] 9)]
    exact Boxed.new _ _ _
  have hb02 : Below w.heap.size w w2 := by rw [hw2]; exact (((Below.refl _ w).alloc (Nat.le_refl _) _).alloc (by simp) _).alloc (by simp; omega) _
  have hts : s.length + 1 ≤ 100001 := by omega
  have Hlen := Lib.hid (alL_len true s)
  have hg3l : w.heap.size ≤ g3 := by omega
  have Hb02 := Lib.hid hb02
  have Ht := Lib.hid ht
  have Hm := Lib.hid hm
  have hg3w : g3 < w2.heap.size := B3.lt
  clear hw2 hb4 hg3 hb02 ht hm
  gi_wp2
  refine range_seqC (gf := 76) (lb := #[.pointer (some ⟨b4, 0, none⟩), .pointer (some ⟨b4 + 1, 0, none⟩)]) rfl (enters_of Tryd.func76 (by kernel_rfl) rfl) (all_seq true s b4 (b4 + 1) w2 Bs Bb (by omega)) (Below.refl _ _) (fun h k => KpA.trans h k) (fun W l o o' h hc => KpA.put W l o o' h hc)
    (fun c args V he => by obtain ⟨v, h, _⟩ := he; rw [h]; rfl) (fun c args => encA_own _ c args)
    (fun i V => HosI w g3 (alL true s) i V)
    (fun _ _ => False)
    (fun i X Y row hs hg hr => hs.kept hg (Harm.loop (by omega) hr) (fun e => by have := (hr _ e.symm).1; omega)) (fun c => ownFrom_pure _ (fun _ => False))
    ⟨_, [], B3, HosOwn.nil _ _, rfl, Hb02.out, fun _ h => (by cases h)⟩
    (fun args => { tmps := #[.string ⟨s.toArray⟩, undef, .slice none 0 0, .pointer (some ⟨g3, 0, none⟩), undef, args.getD 1 undef, undef, undef, .string ⟨s.toArray⟩, .func (.func 76) #[] #[.pointer (some ⟨b4, 0, none⟩), .pointer (some ⟨b4 + 1, 0, none⟩)], args.getD 0 undef, args.getD 1 undef, undef, undef, undef, undef, undef, undef, undef, undef, undef, undef, undef], defers := [] }) ?assign ?body ?done ?stop
  case assign =>
    intro l2 c args V K he hK
    obtain ⟨v, rfl, _⟩ := he
    gi_wp2
    exact hK
  case body =>
    rintro l2 i c args V hl2 ⟨r, hr⟩ ⟨v, H, hbx, hown, his, hbel, hz⟩ hc he
    obtain ⟨va, rfl, hsl⟩ := he
    have hbd := alL_bd hc
    have HX := Lib.hid (host_any va c.2 V (Ht.out.below hbel) (Hm.out.below hbel) hsl (by omega) (fun x hx => by have := hbd.2 x hx; omega))
    have hHl : H.length ≤ 100001 := by
      have h := congrArg List.length his
      rw [List.length_map] at h
      have h2 := List.length_filterMap_le (fun c : Nat × List (List UInt8) => hostP c.2) ((alL true s).take i)
      have h3 := List.length_take_le' i (alL true s)
      have h4 := Hlen.out
      omega
    have hnx : (alL true s).take (i + 1) = (alL true s).take i ++ [c] := by
      obtain ⟨hi, hx⟩ := List.getElem?_eq_some_iff.1 hc
      rw [List.take_succ_eq_append_getElem hi, hx]
    have Hnx := Lib.hid hnx
    have His := Lib.hid his
    have Hown := Lib.hid hown
    have Hbx := Lib.hid hbx
    have Hbel := Lib.hid hbel
    have Hz := Lib.hid hz
    have hVw := hbel.size
    clear hnx his hown hbx hbel hsl hc hbd hr hz
    obtain ⟨A, cp, rfl⟩ := own_any Hown.out.own
    gi_wp2
    refine ⟨trivial, rfl, ?_⟩
    gi_at_call 63
    refine (CallsIn.inRound l2 (callsIn_wide.2 HX.out)).mono ?_
    rintro e w5 ⟨hb5, hpost⟩
    cases hho : hostP c.2 with
    | none =>
      rw [hho] at hpost
      obtain rfl := hpost
      have HK : Hid (((alL true s).take (i + 1)).filterMap (fun c => hostP c.2) = ((alL true s).take i).filterMap (fun c => hostP c.2)) := Lib.hid (by rw [Hnx.out, List.filterMap_append, filterMap_one, hho]; exact List.append_nil _)
      have Hb5 := Lib.hid hb5
      clear hho hb5 HX Hnx
      gi_wp2_with (refine wpListIn_of (fun ⟨_, _, h⟩ => h) _ _ _ rfl ?_)
      go_wp2_with (first
        | ((with_reducible show wpList _ _ _ (⟨some 6, _, _, _, _, _⟩ :: _) _ _); refine wpList_alloc_ho (o := ⟨some 6, _, _, _, _, _⟩) rfl rfl ?_; intro g6 w6 hg hB6 hb6 hs; have Hg6 := Lib.hid hg; clear hs hg)
        | ((with_reducible refine wpList_store_ho (o := ⟨none, _, _, _, _, _⟩) rfl (.tmp 6) _ rfl rfl rfl hB6 ?_); intro w7 hB7 hS7))
      have hb57 : Below V.heap.size V w7 := (Hb5.out.trans (hb6.mono Hb5.out.size)).trans (hS7.below (by have := Hg6.out; have := Hb5.out.size; omega))
      have Hb57 := Lib.hid hb57
      clear hB6 hb6 hB7 hS7 hb57 Hb5
      gi_wp2
      exact ⟨keeps_below Hb57.out, KpA.below Hb57.out, _, H, (Hb57.out.block _ Hbx.out.lt).trans Hbx.out, Hown.out.bel Hb57.out, by rw [HK.out]; exact His.out, Hbel.out.trans (Hb57.out.mono hVw), fun q hq => (Hz.out q hq).bel Hb57.out⟩
    | some p =>
      rw [hho] at hpost
      obtain ⟨h, rfl, hok, hp⟩ := hpost
      have HK : Hid (((alL true s).take (i + 1)).filterMap (fun c => hostP c.2) = ((alL true s).take i).filterMap (fun c => hostP c.2) ++ [hoP h]) := Lib.hid (by rw [Hnx.out, List.filterMap_append, filterMap_one, hho, hp]; rfl)
      have Hok := Lib.hid (hok 0)
      have Hb5 := Lib.hid hb5
      clear hho hb5 HX Hnx hok hp
      gi_wp2_with (refine wpListIn_of (fun ⟨_, _, h⟩ => h) _ _ _ rfl ?_)
      go_wp2_with (first
        | ((with_reducible show wpList _ _ _ (⟨some 6, _, _, _, _, _⟩ :: _) _ _); refine wpList_alloc_ho (o := ⟨some 6, _, _, _, _, _⟩) rfl rfl ?_; intro g6 w6 hg hB6 hb6 hs; have Hg6 := Lib.hid hg; clear hs hg)
        | ((with_reducible refine wpList_store_ho (o := ⟨none, _, _, _, _, _⟩) rfl (.tmp 6) _ rfl rfl rfl hB6 ?_); intro w7 hB7 hS7))
      have hb57 : Below V.heap.size V w7 := (Hb5.out.trans (hb6.mono Hb5.out.size)).trans (hS7.below (by have := Hg6.out; have := Hb5.out.size; omega))
      have hok7 : HoB 0 w7 h := (Hok.out.bel hb6).kept hS7.grown (Harm.type (Nat.zero_le _) (show w6.heap[g6]? = _ from hB6) (by decide))
      have bx7 : Boxed w7 g3 45 (.slice A H.length cp) := (hb57.block _ Hbx.out.lt).trans Hbx.out
      have Hb57 := Lib.hid hb57
      have Hok7 := Lib.hid hok7
      have c7 := bx7.cell
      have Bx7 := Lib.hid bx7
      have hown7 := Hown.out.bel hb57
      clear hB6 hb6 hS7 hb57 hok7 bx7 Hb5 Hok Hg6
      gi_wp2_with (((with_reducible show wpListIn _ _ _ _ _ (⟨some 18, _, _, _, _, _⟩ :: _) _ _); refine wpListIn_of (fun ⟨_, _, h⟩ => h) _ _ _ rfl ?_))
      go_wp2_with (first
        | ((with_reducible show wpList _ _ _ (⟨some 19, _, _, _, _, _⟩ :: _) _ _); refine wpList_load_ho (o := ⟨some 19, _, _, _, _, _⟩) rfl _ rfl rfl hB7 ?_)
        | ((with_reducible show wpList _ _ _ (⟨some 20, _, _, _, _, _⟩ :: _) _ _); refine wpList_lit (o := ⟨some 20, _, _, _, _, _⟩) rfl _ _ rfl elt_hos [.agg (hoA h)] rfl (by decide) (by decide) (fun v hv => by rw [List.mem_singleton.1 hv]; exact hoA_size _) rfl ?_; intro w8 hB8 hx8 hb8 hs8; clear hx8 hs8; have hB8 := bk_list (l := hoL h) hB8 rfl)
        | (at_builtin; refine wpList_app rfl (.tmp 18) (.tmp 20) _ rfl elt_hos rfl (own_below hown7.own hb8) rfl (hB8.sl (size := 19) (n := 1) (hoL_len _) 1 (Nat.le_refl _)) (hoL_one _) (Nat.le_trans hVw (Nat.le_trans Hb57.out.size hb8.size)) (by omega) (by omega) ?_; intro v9 w9 ho9 hb9 hg9; obtain ⟨A9, q9, rfl⟩ := own_any ho9
           have B9 : Bk w9 g3 45 #[.slice A H.length cp] := (Bk.bel Bx7.out hb8).grown hg9 (own_neBk (own_below hown7.own hb8) (Bk.bel Bx7.out hb8) (by decide))
           have c9 : w9.cell? ⟨g3, 0, none⟩ = some (.slice A H.length cp) := B9.cell 0
           have f9 := B9.free 0
           have HB9 := Lib.hid B9
           clear B9 c7))
      have hS := Stays.cell w9 g3 0 (.slice A9 (H.length + 1) q9)
      have o8 := own_below hown7.own hb8
      have hb59 : Below w.heap.size w w9 := ((Hbel.out.trans (Hb57.out.mono hVw)).trans (hb8.mono (Nat.le_trans hVw Hb57.out.size))).trans hb9
      refine ⟨(((keeps_below Hb57.out).trans (keeps_below hb8)).trans (keeps_row o8 hg9)).trans (keeps_cells hS.grown HB9.out), (((KpA.below Hb57.out).trans (KpA.below hb8)).trans (KpA.harm hg9 (Harm.own (Nat.le_refl _) o8 (by decide)))).trans (KpA.harm hS.grown (Harm.type (Nat.le_refl _) HB9.out (by decide))), _, H ++ [h], HB9.out.set_ 0 _, ?_, ?_, hb59.trans (hS.below hg3l), fun q hq => ?_⟩
      · exact (((hown7.bel hb8).add ((Hok7.out.any _).bel hb8) ho9 hg9)).kept hS.grown (Harm.type hg3l HB9.out (by decide))
      · rw [HK.out, List.map_append, His.out]
        rfl
      · refine HoB.kept ?_ hS.grown (Harm.type (Nat.zero_le _) HB9.out (by decide))
        have o80 := own_base o8 (Nat.zero_le _)
        rcases List.mem_append.1 hq with hq | hq
        · exact (((Hz.out q hq).bel Hb57.out).bel hb8).grown o80 hg9
        · rw [List.mem_singleton.1 hq]; exact (Hok7.out.bel hb8).grown o80 hg9
  case done =>
    rintro D V hD ⟨v, H, hbx, hown, his, hbel, hz⟩ hK
    obtain ⟨A, cp, rfl⟩ := own_any hown.own
    have hc3 := Boxed.cell hbx
    have Hown := Lib.hid hown
    have His := Lib.hid his
    have Hbel := Lib.hid hbel
    have Hz := Lib.hid hz
    clear hown his hbel hbx hz
    gi_wp2
    refine ⟨by simp, .inl ⟨_, _, rfl, run_takeDeferred hK, ?_⟩⟩
    have hg := grownBy_putObj' V D (.deferred none)
    have hh : ∀ T, Harm T w.heap.size V (some D) := fun T => Harm.loop (B := w.heap.size) (Nat.le_refl _) (fun r e => by cases e; exact ⟨by omega, _, hK, rfl⟩)
    refine ⟨_, results_tmp rfl _ _ _, .slice A H.length cp, H, rfl, Hown.out.kept hg (hh _), ?_, Below.kept Hbel.out Hbel.out.size hg (hh []), fun q hq => (Hz.out q hq).kept hg ((hh _).mono (fun _ h => h) (Nat.zero_le _))⟩
    rw [His.out, List.take_length]
    rfl
  case stop =>
    rintro D c V hD hx hK
    exact hx.elim
end Go.Proofs.YtgebcifkbldfoaaDoor

/- hosts.has, the reference's named and Has (18). -/
namespace Go.Proofs.YtgebcifkbldfoaaDoor
open Go.RowKit

/-- a name that is not too long. -/
def ShN (n : NmL) : Prop := n.length ≤ 1000000 ∧ ∀ l ∈ n, l.length ≤ 1000000
/-- has one of the names this text? -/
def hasN (S : List NmL) (n : NmL) : Bool := S.any (fun m => decide (lows m = lows n))
theorem hasN_step {L : List (Value × NmL)} {n : NmL} {k : Nat} (h : k < L.length) (ha : ((L.take k).map (·.2)).any (fun m => decide (lows m = lows n)) = false) : ((L.take (k + 1)).map (·.2)).any (fun m => decide (lows m = lows n)) = decide (lows L[k].2 = lows n) := by
  rw [List.take_succ_eq_append_getElem h, List.map_append, List.any_append, ha]
  simp
theorem hasN_yes {L : List (Value × NmL)} {n : NmL} {k : Nat} (h : k < L.length) (hd : lows L[k].2 = lows n) : hasN (L.map (·.2)) n = true :=
  List.any_eq_true.2 ⟨L[k].2, List.mem_map.2 ⟨L[k], List.getElem_mem h, rfl⟩, by simpa using hd⟩
set_option maxRecDepth 100000 in
set_option maxHeartbeats 2000000 in
theorem hhas_any (h : Ho) (n : NmL) (nv : Value) (w : World) (hok : HoOk w h) (hn : Sl w 1 nv n.length (n.map stv)) (hsh : ∀ q ∈ h.L, ShN q.2) :
    Calls Tryd.prog 64 #[.agg (hoA h), nv] w fun e w' => e = .returned (.bool (hasN (h.L.map (·.2)) n)) ∧ Below w.heap.size w w' := by
  obtain ⟨na, nc, rfl, _⟩ := hn.any
  obtain ⟨hda, hA, hcp, L⟩ := h
  have Hsl : Hid (Sl w 1 (.slice hA L.length hcp) L.length (L.flatMap nmF)) := Lib.hid hok.sl
  have Hnm : Hid (∀ q ∈ L, NmOk w q) := Lib.hid hok.nm
  have hfew : L.length ≤ 1000000 := hok.few
  dsimp only at hsh
  show Calls Tryd.prog 64 _ w fun e w' => e = .returned (.bool (hasN (L.map (·.2)) n)) ∧ Below w.heap.size w w'
  have Hn := Lib.hid hn
  have Hsh := Lib.hid hsh
  clear hok hn hsh
  go_enter Tryd.func64, Tryd.ntmps64
  go_wp2_with (first
    | ((with_reducible show wpList _ _ _ (⟨some 2, _, _, _, _, _⟩ :: _) _ _); refine wpList_boxB (o := ⟨some 2, _, _, _, _, _⟩) rfl _ _ rfl rfl ?_; intro g2 w1 hg hB2 hb1 hs; have c18 : w1.cell? ⟨g2, 18, none⟩ = some (.slice hA L.length hcp) := (by rw [hB2.cell 18]; unfold hoA; rw [List.getElem?_toArray]; exact hoL_18 _); clear hg hs))
  have Hb1 := Lib.hid hb1
  have hBl := hB2.lt
  clear hB2 hb1 c18
  go_loopw [6, 10] (fun _ i wr => ∃ k : Nat, k ≤ L.length ∧ i = .int .i64 k ∧ (((L.take k).map (·.2)).any (fun m => decide (lows m = lows n)) = false) ∧ Below w.heap.size w wr) (fun _ i _ => L.length - (intOf i).toNat)
  case atStart => exact ⟨0, Nat.zero_le _, rfl, rfl, Hb1.out⟩
  case round =>
    obtain ⟨k, hk, rfl, ha, hbel⟩ := hrel
    have Ha := Lib.hid ha
    clear ha
    by_cases hlt : k < L.length
    · have hltI : (k : Int) < (L.length : Int) := by omega
      have Hlt := Lib.hid hltI
      have hk0 : (0 : Int) ≤ (k : Int) := by omega
      obtain ⟨b, off, c, hv, hc, hbl, hcell⟩ := Hsl.out.pos (by omega)
      have hR := range_of nmF_len hcell hlt
      have e1 : wr.cell? ⟨b, off + k, none⟩ = some L[k].1 := by
        have := (hbel.cell (p := ⟨b, off + k * 1 + 0, none⟩) hbl).trans (hR 0 _ rfl)
        simpa using this
      have hnm := (Hnm.out _ (List.getElem_mem hlt)).bel hbel
      have hs := Hsh.out _ (List.getElem_mem hlt)
      have Hst := Lib.hid (hasN_step hlt Ha.out)
      have Hyes := Lib.hid (hasN_yes (n := n) hlt)
      injection hv with hv1 _ hv2
      subst hv1 hv2
      generalize L[k] = q at *
      obtain ⟨qv, qn⟩ := q
      obtain ⟨qa, qc, hqv, _⟩ := hnm.sl.any
      dsimp only at hqv e1 hs
      subst hqv
      have HX := Lib.hid (dsame_any qn n _ _ wr hnm.sl (Hn.out.below hbel) (by have := hs.1; omega) (fun l hl => by have := hs.2 l hl; omega))
      dsimp only at HX
      clear hR hcell hnm hs
      cases hd : decide (lows qn = lows n)
      · have Hd := Lib.hid hd
        rw [hd] at HX
        clear hd
        go_wp2_with (first
          | (go_at_call 98; refine HX.out.mono ?_; rintro e w3 ⟨rfl, hb3⟩; have Hb3 := Lib.hid (hbel.trans (hb3.mono hbel.size)); clear hb3))
        go_roundw
        case rel => exact ⟨k + 1, by have := Hlt.out; omega, by go_num, Hst.out.trans Hd.out, Hb3.out⟩
        case measure => have := Hlt.out; (simp [intOf]) <;> omega
      · have Hd := Lib.hid hd
        rw [hd] at HX
        clear hd
        go_wp2_with (first
          | (go_at_call 98; refine HX.out.mono ?_; rintro e w3 ⟨rfl, hb3⟩; have Hb3 := Lib.hid (hbel.trans (hb3.mono hbel.size)); clear hb3))
        go_ret
        exact ⟨by rw [Hyes.out (by simpa using Hd.out)]; rfl, Hb3.out⟩
    · have hltI : ¬ (k : Int) < (L.length : Int) := by omega
      have hf : Hid (hasN (L.map (·.2)) n = false) := Lib.hid (by have h1 := Ha.out; rw [List.take_of_length_le (by omega)] at h1; exact h1)
      go_wp2
      go_ret
      exact ⟨by rw [hf.out]; rfl, hbel⟩
end Go.Proofs.YtgebcifkbldfoaaDoor

/- The reference's Parse of hosts (18). -/
namespace Go.Proofs.YtgebcifkbldfoaaDoor
open Go.RowKit
attribute [local go_sem] ba_get ext_take ext_drop ext_any ba_app

theorem hostP_cons (f : List UInt8) (R : List (List UInt8)) : hostP (f :: R) = match adrP f with
    | .inr a => if R = [] then none else (namesP R).map fun N => (a, N)
    | .inl _ => none := by
  cases R with
  | nil => unfold hostP; cases adrP f <;> rfl
  | cons g r =>
    show (match adrP f with
      | .inr a => (namesP (g :: r)).map fun N => (a, N)
      | .inl _ => none) = _
    cases adrP f with
    | inl _ => rfl
    | inr a => exact (if_neg (by simp)).symm
theorem namesP_nil {R : List (List UInt8)} (h : namesP R = some []) : R = [] := by
  unfold namesP at h
  split at h
  · next ha =>
    injection h with h
    cases R with
    | nil => rfl
    | cons x r =>
      have hx := List.all_eq_true.1 ha x (by simp)
      obtain ⟨n, hn⟩ := Option.isSome_iff_exists.1 hx
      rw [List.filterMap_cons_some hn] at h
      cases h
  · cases h
theorem namesP_len {R : List (List UInt8)} {C : List NmL} (h : namesP R = some C) : C.length ≤ R.length := by
  unfold namesP at h
  split at h
  · injection h with h
    subst h
    exact List.length_filterMap_le _ _
  · cases h
/-- behind i of the lines, by the reference. -/
structure RhRel (w w2 : World) (S : List LnT) (k : Nat) (v : Value) (H : List Ho) (wr : World) : Prop where
  own : wr.ownsRow w2.heap.size 106 19 v H.length (H.flatMap hoL)
  ok : ∀ h ∈ H, HoB 0 wr h
  is : H.map hoP = (S.take k).filterMap (fun c => hostP c.2)
  b : Below w2.heap.size w2 wr
theorem RhRel.skip {w w2 wr w' : World} {S : List LnT} {k : Nat} {v : Value} {H : List Ho} (h : RhRel w w2 S k v H wr) (hb : Below wr.heap.size wr w') (hk : k < S.length) (hn : hostP S[k].2 = none) : RhRel w w2 S (k + 1) v H w' := by
  refine ⟨own_below h.own hb, fun q hq => (h.ok q hq).bel hb, ?_, h.b.trans (hb.mono h.b.size)⟩
  rw [List.take_succ_eq_append_getElem hk, List.filterMap_append, filterMap_one, hn, h.is]
  exact (List.append_nil _).symm
set_option maxRecDepth 100000 in
set_option maxHeartbeats 4000000 in
theorem rhparse_any (s : List UInt8) (w : World) (hl : s.length ≤ 100000) : Calls Tryd.prog 24 #[.string ⟨s.toArray⟩] w (HosPost w (hosP s)) := by
  obtain ⟨S, hS⟩ : ∃ S, S = alL true s := ⟨_, rfl⟩
  have hbd : ∀ (i : Nat) (c : LnT), S[i]? = some c → c.2 ≠ [] ∧ c.2.length ≤ 100000 ∧ ∀ x ∈ c.2, x.length ≤ 100000 := by
    intro i c hc
    rw [hS] at hc
    have h1 := alL_bd hc
    have h2 := List.mem_of_getElem? hc
    unfold alL at h2
    have h3 := (List.mem_filter.1 h2).2
    exact ⟨by simpa [alP] using h3, by omega, fun x hx => by have := h1.2 x hx; omega⟩
  have hPs : hosP s = S.filterMap (fun c => hostP c.2) := by rw [hS]; rfl
  rw [hPs]
  have hSlen : S.length ≤ 100001 := by rw [hS]; have := alL_len true s; omega
  have Hbd := Lib.hid hbd
  have HSe := Lib.hid hS
  clear hPs hbd hS
  go_enter Tryd.func24, Tryd.ntmps24
  go_wp2_with (first
    | (go_at_call 61; refine (rall_any true s _ hl).mono ?_; rintro e w2 ⟨v2, X, rfl, hX, hXS, hb2⟩; obtain ⟨A2, c2, rfl⟩ := own_any hX.own; refine holdL ?_))
  refine Lib.hid ?_
  have hXl : X.length ≤ 100001 := by
    have h := congrArg List.length hXS
    rw [List.length_map] at h
    have := alL_len true s
    omega
  rw [← HSe.out] at hXS
  have hSl : S.length = X.length := by rw [← hXS, List.length_map]
  have HX := Lib.hid hX
  have HS := Lib.hid hXS
  have Hb2 := Lib.hid hb2
  have HSl := Lib.hid hSl
  clear hX hXS HSe hb2 hSl
  go_wp2
  go_loopw [3, 5] (fun ov iv wr => ∃ (k : Nat) (H : List Ho), k ≤ X.length ∧ iv = .int .i64 k ∧ RhRel w w2 S k ov H wr) (fun _ iv _ => X.length - (intOf iv).toNat)
  case atStart => exact ⟨0, [], Nat.zero_le _, rfl, by simpa using World.ownsRow_nil w2 w2.heap.size 106 19, fun _ h => (by cases h), rfl, Below.refl _ _⟩
  case round =>
    obtain ⟨k, H, hk, rfl, rel⟩ := hrel
    obtain ⟨wo, rfl⟩ : ∃ wo, wo = wr := ⟨_, rfl⟩
    obtain ⟨A, cp, rfl⟩ := own_any rel.own
    have hHl : H.length ≤ 100001 := by
      have h := congrArg List.length rel.is
      rw [List.length_map] at h
      have h2 := List.length_filterMap_le (fun c : LnT => hostP c.2) (S.take k)
      have h3 := List.length_take_le k S
      omega
    have Rel := Lib.hid rel
    clear rel
    by_cases hlt : k < X.length
    · have j0 : (k : Int) < (X.length : Int) := by omega
      have hk0 : (0 : Int) ≤ (k : Int) := by omega
      have hkS : k < S.length := by have := HSl.out; omega
      obtain ⟨b, off, c, hv, hc, hbl, hcell⟩ := (Sl.own HX.out.own).pos (by omega)
      injection hv with hv1 _ hv2
      subst hv1 hv2
      have hR := range_of lnC_len hcell hlt
      have e1 : w2.cell? ⟨b, off + k * 2 + 1, none⟩ = some X[k].1 := hR 1 _ rfl
      have hq := HX.out.ok X[k] (List.getElem_mem hlt)
      have hSk : S[k] = X[k].2 := by
        have h2 : S[k]? = some X[k].2 := by rw [← HS.out, List.getElem?_map, List.getElem?_eq_getElem hlt]; rfl
        rw [List.getElem?_eq_getElem hkS] at h2
        exact Option.some.inj h2
      have hb3 := Hbd.out k S[k] (List.getElem?_eq_getElem hkS)
      rw [hSk] at hb3
      obtain ⟨P, hP⟩ : ∃ P, X[k] = P := ⟨_, rfl⟩
      obtain ⟨qv, qn, qF⟩ := P
      rw [hP] at e1 hq hb3 hSk
      dsimp only at e1 hq hb3 hSk
      obtain ⟨hne, hFl, hFx⟩ := hb3
      obtain ⟨f, R, rfl⟩ : ∃ f R, qF = f :: R := by cases qF with | nil => exact absurd rfl hne | cons f R => exact ⟨f, R, rfl⟩
      obtain ⟨bf, of, cf, rfl, hcf, hbfl, hfc⟩ := hq.sl.pos (by simp)
      have hf0 : w2.cell? ⟨bf, of, none⟩ = some (.string ⟨f.toArray⟩) := by
        have := hfc 0 (stv f) rfl
        rwa [Nat.add_zero] at this
      have HC : Hid (∀ w', Below wo.heap.size wo w' → w'.cell? ⟨b, off + k * 2 + 1, none⟩ = some (.slice (some ⟨bf, of, none⟩) (R.length + 1) cf) ∧ w'.cell? ⟨bf, of, none⟩ = some (.string ⟨f.toArray⟩) ∧ Sl w' 1 (.slice (some ⟨bf, of, none⟩) (R.length + 1) cf) (R.length + 1) (stv f :: R.map stv)) := Lib.hid (fun w' hb' => by
        have hbb := Rel.out.b.trans (hb'.mono Rel.out.b.size)
        exact ⟨(hbb.cell (p := ⟨b, off + k * 2 + 1, none⟩) hbl).trans e1, (hbb.cell (p := ⟨bf, of, none⟩) hbfl).trans hf0, hq.sl.below hbb⟩)
      have hfl : f.length ≤ 1000000 := by have := hFx f (by simp); omega
      have HRl : Hid (∀ x ∈ R, x.length ≤ 1000000) := Lib.hid (fun x hx => by have := hFx x (by simp [hx]); omega)
      have hRl : R.length ≤ 100000 := by have := hFl; simp at this; omega
      have Hk : Hid (∀ o, hostP (f :: R) = o → hostP S[k].2 = o) := Lib.hid (fun o h => by rw [hSk]; exact h)
      obtain ⟨hc1, hc2, hc3⟩ := HC.out wo (Below.refl _ _)
      rw [List.length_cons] at hcf
      have hcf1 : ((R.length : Int) + 1 ≤ (cf : Int)) := by omega
      have hR1 : (0 : Int) < (R.length : Int) + 1 := by omega
      clear hcell hR e1 hq hSk hP hne hFl hFx hfc hf0 hc3
      cases hx : adrP f with
      | inl e0 =>
        have he0 : (e0 == 0) = false := by rcases adrP_err hx with rfl | rfl <;> rfl
        have HA : Hid (∀ w', Calls Tryd.prog 56 #[.string ⟨f.toArray⟩] w' fun e w'' => e = .returned (.tuple #[.agg (adA ad0), .int .i64 e0]) ∧ Below w'.heap.size w' w'') := Lib.hid (fun w' => (raparse_any f w' (by omega)).mono fun e w'' ⟨he, hb⟩ => by rw [hx] at he; exact ⟨he, hb⟩)
        cases hn : namesP R with
        | none =>
          have HK : Hid (hostP S[k].2 = none) := Lib.hid (Hk.out _ (by rw [hostP_cons, hx] <;> (first | rfl | (rw [hn]; exact ite_self _))))
          clear hx
          go_wp2_with (first
            | (go_at_call 56; refine (HA.out _).mono ?_; rintro e w6 ⟨rfl, hb6⟩; have Hb6 := Lib.hid hb6; clear hb6 hc1 hc2)
            | ((with_reducible refine wpList_allocAd (o := ⟨some 6, _, _, _, _, _⟩) rfl rfl ?_); intro g4 w7 hg hB4 hb7 hs; have Hg4 := Lib.hid hg; clear hs hg)
            | ((with_reducible refine wpList_storeAd (o := ⟨none, _, _, _, _, _⟩) rfl (.tmp 6) _ rfl rfl rfl hB4 ?_); intro w8 hB8 hS8; have hb8 := (Hb6.out.trans (hb7.mono Hb6.out.size)).trans (hS8.below (by have := Hb6.out.size; have := Hg4.out; omega)); have Hb8 := Lib.hid hb8; obtain ⟨hc1, hc2, hc3⟩ := HC.out w8 hb8; clear hb7 hS8 hb8 hB4)
            | ((with_reducible show wpList _ _ _ (⟨some 35, _, _, _, _, _⟩ :: _) _ _); refine wpList_sliceLo (o := ⟨some 35, _, _, _, _, _⟩) rfl _ _ rfl elt_strs rfl rfl rfl (J := 1) (by omega) hc3 ?_; intro v35 h35; have h35 : Sl w8 1 v35 R.length (R.map stv) := (by simpa using h35); obtain ⟨A5, c5, rfl, _⟩ := h35.any; clear hc3)
            | (go_at_call 62; refine (rnames_any _ R _ h35 hRl HRl.out).mono ?_; rintro e w9 ⟨hb9, hp9⟩; have Hb9 := Lib.hid (bel_tr Hb8.out hb9); rw [hn] at hp9; obtain rfl := hp9; refine holdL ?_))
          refine Lib.hid ?_
          have HnK := Lib.hid hn
          clear hn h35 hc1 hc2 hb9
          go_wp2
          go_roundw
          case rel => exact ⟨k + 1, H, by omega, by go_num, Rel.out.skip Hb9.out hkS HK.out⟩
          case measure => (simp [intOf]) <;> omega
        | some C =>
          have HK : Hid (hostP S[k].2 = none) := Lib.hid (Hk.out _ (by rw [hostP_cons, hx] <;> rfl))
          clear hx
          go_wp2_with (first
            | (go_at_call 56; refine (HA.out _).mono ?_; rintro e w6 ⟨rfl, hb6⟩; have Hb6 := Lib.hid hb6; clear hb6 hc1 hc2)
            | ((with_reducible refine wpList_allocAd (o := ⟨some 6, _, _, _, _, _⟩) rfl rfl ?_); intro g4 w7 hg hB4 hb7 hs; have Hg4 := Lib.hid hg; clear hs hg)
            | ((with_reducible refine wpList_storeAd (o := ⟨none, _, _, _, _, _⟩) rfl (.tmp 6) _ rfl rfl rfl hB4 ?_); intro w8 hB8 hS8; have hb8 := (Hb6.out.trans (hb7.mono Hb6.out.size)).trans (hS8.below (by have := Hb6.out.size; have := Hg4.out; omega)); have Hb8 := Lib.hid hb8; obtain ⟨hc1, hc2, hc3⟩ := HC.out w8 hb8; clear hb7 hS8 hb8 hB4)
            | ((with_reducible show wpList _ _ _ (⟨some 35, _, _, _, _, _⟩ :: _) _ _); refine wpList_sliceLo (o := ⟨some 35, _, _, _, _, _⟩) rfl _ _ rfl elt_strs rfl rfl rfl (J := 1) (by omega) hc3 ?_; intro v35 h35; have h35 : Sl w8 1 v35 R.length (R.map stv) := (by simpa using h35); obtain ⟨A5, c5, rfl, _⟩ := h35.any; clear hc3)
            | (go_at_call 62; refine (rnames_any _ R _ h35 hRl HRl.out).mono ?_; rintro e w9 ⟨hb9, hp9⟩; have Hb9 := Lib.hid (bel_tr Hb8.out hb9); rw [hn] at hp9; obtain ⟨v9, N, rfl, hN, hN0⟩ := hp9; obtain ⟨A9, q9, rfl⟩ := own_any hN.own; refine holdL ?_))
          refine Lib.hid ?_
          have HN := Lib.hid hN
          have HN0 := Lib.hid hN0
          clear hN hN0
          have HnK := Lib.hid hn
          clear hn h35 hc1 hc2 hb9
          go_wp2
          go_roundw
          case rel => exact ⟨k + 1, H, by omega, by go_num, Rel.out.skip Hb9.out hkS HK.out⟩
          case measure => (simp [intOf]) <;> omega
      | inr a =>
        have HA : Hid (∀ w', Calls Tryd.prog 56 #[.string ⟨f.toArray⟩] w' fun e w'' => e = .returned (.tuple #[.agg (adA a), .int .i64 0]) ∧ Below w'.heap.size w' w'') := Lib.hid (fun w' => (raparse_any f w' (by omega)).mono fun e w'' ⟨he, hb⟩ => by rw [hx] at he; exact ⟨he, hb⟩)
        cases hn : namesP R with
        | none =>
          have HK : Hid (hostP S[k].2 = none) := Lib.hid (Hk.out _ (by rw [hostP_cons, hx] <;> (first | rfl | (rw [hn]; exact ite_self _))))
          clear hx
          go_wp2_with (first
            | (go_at_call 56; refine (HA.out _).mono ?_; rintro e w6 ⟨rfl, hb6⟩; have Hb6 := Lib.hid hb6; clear hb6 hc1 hc2)
            | ((with_reducible refine wpList_allocAd (o := ⟨some 6, _, _, _, _, _⟩) rfl rfl ?_); intro g4 w7 hg hB4 hb7 hs; have Hg4 := Lib.hid hg; clear hs hg)
            | ((with_reducible refine wpList_storeAd (o := ⟨none, _, _, _, _, _⟩) rfl (.tmp 6) _ rfl rfl rfl hB4 ?_); intro w8 hB8 hS8; have hb8 := (Hb6.out.trans (hb7.mono Hb6.out.size)).trans (hS8.below (by have := Hb6.out.size; have := Hg4.out; omega)); have Hb8 := Lib.hid hb8; obtain ⟨hc1, hc2, hc3⟩ := HC.out w8 hb8; clear hb7 hS8 hb8 hB4)
            | ((with_reducible show wpList _ _ _ (⟨some 35, _, _, _, _, _⟩ :: _) _ _); refine wpList_sliceLo (o := ⟨some 35, _, _, _, _, _⟩) rfl _ _ rfl elt_strs rfl rfl rfl (J := 1) (by omega) hc3 ?_; intro v35 h35; have h35 : Sl w8 1 v35 R.length (R.map stv) := (by simpa using h35); obtain ⟨A5, c5, rfl, _⟩ := h35.any; clear hc3)
            | (go_at_call 62; refine (rnames_any _ R _ h35 hRl HRl.out).mono ?_; rintro e w9 ⟨hb9, hp9⟩; have Hb9 := Lib.hid (bel_tr Hb8.out hb9); rw [hn] at hp9; obtain rfl := hp9; refine holdL ?_))
          refine Lib.hid ?_
          have HnK := Lib.hid hn
          clear hn h35 hc1 hc2 hb9
          go_wp2
          go_roundw
          case rel => exact ⟨k + 1, H, by omega, by go_num, Rel.out.skip Hb9.out hkS HK.out⟩
          case measure => (simp [intOf]) <;> omega
        | some C =>
          by_cases hC : C = []
          · subst hC
            have HR0 : Hid (R = []) := Lib.hid (namesP_nil hn)
            have HK : Hid (hostP S[k].2 = none) := Lib.hid (Hk.out _ (by rw [hostP_cons, hx] <;> (first | rfl | exact if_pos HR0.out)))
            clear hx
            go_wp2_with (first
              | (go_at_call 56; refine (HA.out _).mono ?_; rintro e w6 ⟨rfl, hb6⟩; have Hb6 := Lib.hid hb6; clear hb6 hc1 hc2)
              | ((with_reducible refine wpList_allocAd (o := ⟨some 6, _, _, _, _, _⟩) rfl rfl ?_); intro g4 w7 hg hB4 hb7 hs; have Hg4 := Lib.hid hg; clear hs hg)
              | ((with_reducible refine wpList_storeAd (o := ⟨none, _, _, _, _, _⟩) rfl (.tmp 6) _ rfl rfl rfl hB4 ?_); intro w8 hB8 hS8; have hb8 := (Hb6.out.trans (hb7.mono Hb6.out.size)).trans (hS8.below (by have := Hb6.out.size; have := Hg4.out; omega)); have Hb8 := Lib.hid hb8; obtain ⟨hc1, hc2, hc3⟩ := HC.out w8 hb8; clear hb7 hS8 hb8 hB4)
              | ((with_reducible show wpList _ _ _ (⟨some 35, _, _, _, _, _⟩ :: _) _ _); refine wpList_sliceLo (o := ⟨some 35, _, _, _, _, _⟩) rfl _ _ rfl elt_strs rfl rfl rfl (J := 1) (by omega) hc3 ?_; intro v35 h35; have h35 : Sl w8 1 v35 R.length (R.map stv) := (by simpa using h35); obtain ⟨A5, c5, rfl, _⟩ := h35.any; clear hc3)
              | (go_at_call 62; refine (rnames_any _ R _ h35 hRl HRl.out).mono ?_; rintro e w9 ⟨hb9, hp9⟩; have Hb9 := Lib.hid (bel_tr Hb8.out hb9); rw [hn] at hp9; obtain ⟨v9, N, rfl, hN, hN0⟩ := hp9; obtain ⟨A9, q9, rfl⟩ := own_any hN.own; refine holdL ?_))
            refine Lib.hid ?_
            have HN := Lib.hid hN
            have HN0 := Lib.hid hN0
            have hNl : N.length = 0 := by have h := congrArg List.length hN.is; rwa [List.length_map] at h
            clear hN hN0
            have n0 : ¬ ((0 : Int) < (N.length : Int)) := by omega
            have HnK := Lib.hid hn
            clear hn h35 hc1 hc2 hb9
            go_wp2
            go_roundw
            case rel => exact ⟨k + 1, H, by omega, by go_num, Rel.out.skip Hb9.out hkS HK.out⟩
            case measure => (simp [intOf]) <;> omega
          · have hR0 : R ≠ [] := fun h => hC (by rw [h] at hn; exact (Option.some.inj hn).symm)
            have HK : Hid (hostP S[k].2 = some (a, C)) := Lib.hid (Hk.out _ (by rw [hostP_cons, hx]; exact (if_neg hR0).trans (by rw [hn]; rfl)))
            clear hx
            go_wp2_with (first
              | (go_at_call 56; refine (HA.out _).mono ?_; rintro e w6 ⟨rfl, hb6⟩; have Hb6 := Lib.hid hb6; clear hb6 hc1 hc2)
              | ((with_reducible refine wpList_allocAd (o := ⟨some 6, _, _, _, _, _⟩) rfl rfl ?_); intro g4 w7 hg hB4 hb7 hs; have Hg4 := Lib.hid hg; clear hs hg)
              | ((with_reducible refine wpList_storeAd (o := ⟨none, _, _, _, _, _⟩) rfl (.tmp 6) _ rfl rfl rfl hB4 ?_); intro w8 hB8 hS8; have hb8 := (Hb6.out.trans (hb7.mono Hb6.out.size)).trans (hS8.below (by have := Hb6.out.size; have := Hg4.out; omega)); have Hb8 := Lib.hid hb8; obtain ⟨hc1, hc2, hc3⟩ := HC.out w8 hb8; clear hb7 hS8 hb8 hB4)
              | ((with_reducible show wpList _ _ _ (⟨some 35, _, _, _, _, _⟩ :: _) _ _); refine wpList_sliceLo (o := ⟨some 35, _, _, _, _, _⟩) rfl _ _ rfl elt_strs rfl rfl rfl (J := 1) (by omega) hc3 ?_; intro v35 h35; have h35 : Sl w8 1 v35 R.length (R.map stv) := (by simpa using h35); obtain ⟨A5, c5, rfl, _⟩ := h35.any; clear hc3)
              | (go_at_call 62; refine (rnames_any _ R _ h35 hRl HRl.out).mono ?_; rintro e w9 ⟨hb9, hp9⟩; have Hb9 := Lib.hid (bel_tr Hb8.out hb9); rw [hn] at hp9; obtain ⟨v9, N, rfl, hN, hN0⟩ := hp9; obtain ⟨A9, q9, rfl⟩ := own_any hN.own; refine holdL ?_))
            refine Lib.hid ?_
            have HN := Lib.hid hN
            have HN0 := Lib.hid hN0
            have HNl : Hid (N.length = C.length) := Lib.hid (by rw [← hN.is, List.length_map])
            clear hN hN0
            have n0 : (0 : Int) < (N.length : Int) := by have := List.length_pos_iff.2 hC; have := HNl.out; omega
            have hB9 := hB8.bel hb9
            have HnK := Lib.hid hn
            clear hn h35 hc1 hc2 hb9
            have hNlen : N.length ≤ 1000000 := by
              have h1 := namesP_len HnK.out
              have h2 := HNl.out
              omega
            go_wp2_with (first
              | (with_reducible refine wpList_loadAd (o := ⟨some 50, _, _, _, _, _⟩) rfl _ rfl rfl hB9 ?_)
              | ((with_reducible show wpList _ _ _ (⟨some 52, _, _, _, _, _⟩ :: _) _ _); refine wpList_buildL (o := ⟨some 52, _, _, _, _, _⟩) rfl _ [(0, .tmp 50), (1, .tmp 51)] rfl (built_ho a A9 q9 N) rfl ?_)
              | ((with_reducible show wpList _ _ _ (⟨some 53, _, _, _, _, _⟩ :: _) _ _); refine wpList_lit (o := ⟨some 53, _, _, _, _, _⟩) rfl _ _ rfl elt_hos [.agg (hoA ⟨a, A9, q9, N⟩)] rfl (by decide) (by decide) (fun v hv => by rw [List.mem_singleton.1 hv]; exact hoA_size _) rfl ?_; intro w10 hB10 hx10 hb10 hs10; clear hx10 hs10; have hB10 := bk_list (l := hoL ⟨a, A9, q9, N⟩) hB10 rfl; have ho10 := own_below (own_below Rel.out.own Hb9.out) hb10)
              | (at_builtin; refine wpList_app rfl (.tmp 49) (.tmp 53) _ rfl elt_hos rfl ho10 rfl (hB10.sl (size := 19) (n := 1) (hoL_len _) 1 (Nat.le_refl _)) (hoL_one _) (Nat.le_trans Rel.out.b.size (Nat.le_trans Hb9.out.size hb10.size)) (by omega) (by omega) ?_; intro v11 w11 ho11 hb11 hg11))
            have o0 := own_base ho10 (Nat.zero_le _)
            have hnew : HoB 0 w10 ⟨a, A9, q9, N⟩ := ⟨(SlB.own HN.out.own).bel hb10, fun q hq => (HN0.out q hq).bel hb10, hNlen⟩
            go_roundw
            case rel =>
              refine ⟨k + 1, H ++ [⟨a, A9, q9, N⟩], by omega, by go_num, by rw [List.length_append, List.flatMap_append]; simpa using ho11, fun q hq => ?_, ?_, ((Rel.out.b.trans (Hb9.out.mono Rel.out.b.size)).trans (hb10.mono (Nat.le_trans Rel.out.b.size Hb9.out.size))).trans hb11⟩
              · rcases List.mem_append.1 hq with hq | hq
                · exact (((Rel.out.ok q hq).bel Hb9.out).bel hb10).grown o0 hg11
                · rw [List.mem_singleton.1 hq]; exact hnew.grown o0 hg11
              · rw [List.take_succ_eq_append_getElem hkS, List.filterMap_append, filterMap_one, HK.out, List.map_append, Rel.out.is]
                show _ ++ [(a, N.map (·.2))] = _
                rw [HN.out.is]
                rfl
            case measure => (simp [intOf]) <;> omega
    · have hkX : k = X.length := by omega
      subst hkX
      have j0 : ¬ (X.length : Int) < (X.length : Int) := by omega
      have Hfin : Hid (H.map hoP = S.filterMap (fun c => hostP c.2)) := Lib.hid (by rw [Rel.out.is, List.take_of_length_le (by have := HSl.out; omega)])
      go_wp2
      go_ret
      exact ⟨_, H, rfl, ⟨own_base Rel.out.own Hb2.out.size, fun q hq => (Rel.out.ok q hq).any _⟩, Hfin.out, Hb2.out.trans (Rel.out.b.mono Hb2.out.size), Rel.out.ok⟩
end Go.Proofs.YtgebcifkbldfoaaDoor
