/- Contracts and plain lemmas of our own, merged. -/
import Derived.Test.YtgebcifkbldfoaaDoorZRj13
import Derived.Test.YtgebcifkbldfoaaDoorZRj20
import Derived.Shelf.Abstract
import Derived.Shelf.RegionOpen
import Derived.WalkKit
import Derived.OwnWalkIn
import Derived.TacticsInMore
import Derived.LoopNIn
import Derived.LoopIn
/- The lines of a text (layer 16): plain words, and the iterator of lines. -/
namespace Go.Proofs.YtgebcifkbldfoaaDoor
open Go.RowKit
attribute [local go_sem] ba_get ext_take ext_drop

theorem holdL {p : Prop} (h : Hid p) : p := h.out
theorem spB_none {d : UInt8} : ∀ (l cur : List UInt8), idx d l = none → spB d cur l = [cur ++ l]
  | [], cur, _ => by simp [spB]
  | c :: r, cur, h => by
    unfold idx at h
    split at h
    · cases h
    · next hc =>
      rw [spB, if_neg hc, spB_none r _ (by simpa using h)]
      simp
theorem spB_some {d : UInt8} : ∀ (l cur : List UInt8) (k : Nat), idx d l = some k → spB d cur l = (cur ++ l.take k) :: spB d [] (l.drop (k + 1))
  | [], cur, _, h => by cases h
  | c :: r, cur, k, h => by
    unfold idx at h
    split at h
    · next hc =>
      cases h
      rw [spB, if_pos hc]
      simp
    · next hc =>
      obtain ⟨k', hk', rfl⟩ := Option.map_eq_some_iff.1 h
      rw [spB, if_neg hc, spB_some r _ k' hk']
      simp
theorem spB_pos (d : UInt8) : ∀ (l cur : List UInt8), 0 < (spB d cur l).length
  | [], _ => by simp [spB]
  | c :: r, cur => by
    rw [spB]
    split
    · simp
    · exact spB_pos d r _
/-- the lines of a text, with their numbers. -/
def linL (s : List UInt8) : List (List UInt8) := spB 10 [] s
def numL {α : Type} (L : List α) : List (Nat × α) := L.mapIdx fun i x => (i + 1, x)
theorem numL_at {α : Type} {L : List α} {i : Nat} {x : α} (h : L[i]? = some x) : (numL L)[i]? = some (i + 1, x) := by
  unfold numL
  rw [List.getElem?_mapIdx, h]
  rfl
theorem numL_len {α : Type} (L : List α) : (numL L).length = L.length := by unfold numL; rw [List.length_mapIdx]
theorem linL_len (d : UInt8) : ∀ (l cur : List UInt8), (spB d cur l).length ≤ l.length + 1
  | [], _ => by simp [spB]
  | c :: r, cur => by
    rw [spB]
    split
    · have := linL_len d r []; simp; omega
    · have := linL_len d r (cur ++ [c]); simp; omega
theorem cut_none {c : UInt8} {l : List UInt8} {w : World} (h : idx c l = none) (hl : l.length ≤ 140737488351232) : Calls Tryd.prog 80 #[.string ⟨l.toArray⟩, .int .u8 (c.toNat : Int)] w fun e w' => e = .returned (.tuple #[stv l, stv [], .bool false]) ∧ Below w.heap.size w w' :=
  (cut_any c l w hl).mono fun e w' ⟨he, hb⟩ => ⟨by rw [he]; exact (cutV_n h).symm, hb⟩
theorem cut_some {c : UInt8} {l : List UInt8} {k : Nat} {w : World} (h : idx c l = some k) (hl : l.length ≤ 140737488351232) : Calls Tryd.prog 80 #[.string ⟨l.toArray⟩, .int .u8 (c.toNat : Int)] w fun e w' => e = .returned (.tuple #[stv (l.take k), stv (l.drop (k + 1)), .bool true]) ∧ Below w.heap.size w w' :=
  (cut_any c l w hl).mono fun e w' ⟨he, hb⟩ => ⟨by rw [he]; exact (cutV_s h).symm, hb⟩
theorem own_still {J : Nat → World → Prop} {B i : Nat} {w w' : World} (hJ : OwnFrom B J) (h : J i w) (hb : Below w.heap.size w w') : J i w' :=
  hJ i w w' none h ⟨hb.os, hb.tape, hb.output, hb.size, fun k hk _ => hb.block k hk⟩ (fun r e => by cases e)
attribute [local go_sem] Oper.semAt_some
set_option maxRecDepth 100000 in
set_option maxHeartbeats 1000000 in
theorem lines1_seq (s : List UInt8) (b : Nat) (w : World) (hB : w.cell? ⟨b, 0, none⟩ = some (stv s)) (hb : b < w.heap.size) (hl : s.length ≤ 1000000000) (Kp : World → World → Prop) :
    SeqC Tryd.prog 105 #[.pointer (some ⟨b, 0, none⟩)] (fun (c : Nat × List UInt8) args _ => args = #[.int .i64 (c.1 : Int), stv c.2]) Kp (numL (linL s)) w := by
  intro l J Jx W hW hJ hJx hY h0
  have hc : W.cell? ⟨b, 0, none⟩ = some (.string ⟨s.toArray⟩) := (hW.cell (p := ⟨b, 0, none⟩) hb).trans hB
  have HY := Lib.hid hY
  have HJ := Lib.hid hJ
  clear hY hJ hJx hB hW
  obtain ⟨L, hL⟩ : ∃ L, linL s = L := ⟨_, rfl⟩
  have hlen : L.length ≤ s.length + 1 := by rw [← hL]; exact linL_len 10 s []
  rw [hL] at HY ⊢
  rw [numL_len]
  refine callsIn_of_wp Tryd.func105 rfl trivial ?_ rfl
  simp only [Tryd.ntmps105, List.size_toArray, List.length_cons, List.length_nil, Nat.reduceAdd, Nat.reduceSub, Array.replicate_succ, Array.replicate_zero, List.push_toArray, List.append_toArray, List.nil_append, List.cons_append]
  gi_wp2
  gi_loopw [3, 4, 5] (fun rv mv nv wr => ∃ (i : Nat) (r : List UInt8) (mo : Bool), rv = .string ⟨r.toArray⟩ ∧ mv = .bool mo ∧ nv = .int .i64 ((i : Int) + 1) ∧ r.length ≤ s.length ∧ i ≤ L.length ∧ (mo = true → L.drop i = spB 10 [] r) ∧ (mo = false → i = L.length) ∧ J i wr) (fun _ _ nv _ => L.length + 1 - (intOf nv).toNat)
  case atStart => exact ⟨0, s, true, rfl, rfl, rfl, Nat.le_refl _, Nat.zero_le _, fun _ => by rw [List.drop_zero]; exact hL.symm, (fun h => by cases h), h0⟩
  case round =>
    obtain ⟨i, r, mo, rfl, rfl, rfl, hrl, hiL, hm1, hm0, hJi⟩ := hrel
    have HJi := Lib.hid hJi
    clear hJi h0
    cases mo with
    | false =>
      have hi := hm0 rfl
      subst hi
      clear hm1 hm0
      gi_wp2
      go_end0
      exact ⟨⟨_, rfl⟩, .inl HJi.out⟩
    | true =>
      have hd := hm1 rfl
      clear hm1 hm0
      cases hx : idx 10 r with
      | none =>
        have hsp := spB_none r [] hx
        rw [List.nil_append, ← hd] at hsp
        have HLi : Hid (L[i]? = some r) := Lib.hid (by rw [← List.head?_drop, hsp]; rfl)
        have hiE : i + 1 = L.length := by have := congrArg List.length hsp; simp at this; omega
        have Hx := Lib.hid hx
        clear hx hsp hd
        gi_wp2
        refine ⟨trivial, rfl, ?_⟩
        gi_at_call 80
        refine (callsIn_wide.2 (cut_none Hx.out (by omega))).mono ?_
        rintro e w2 ⟨rfl, hb2⟩
        have Hb2 := Lib.hid hb2
        clear hb2
        obtain ⟨fn, tmps, assign, body, hy, hR⟩ := HY.out i (i + 1, r) _ w2 (own_still HJ.out HJi.out Hb2.out) (numL_at HLi.out) rfl
        simp only [Int.natCast_add, Int.cast_ofNat_Int] at hy
        have HR := Lib.hid hR
        clear hR
        gi_wp2
        refine ⟨rfl, HR.out.mono ?_⟩
        rintro e W3 (⟨rfl, hJ3, _, _⟩ | ⟨rfl, hJx3, _⟩)
        · have HJ3 := Lib.hid hJ3
          clear hJ3
          gi_wp2
          go_roundw
          case rel => exact ⟨i + 1, [], false, rfl, rfl, by go_num, by simp, by omega, (fun h => by cases h), (fun _ => hiE), HJ3.out⟩
          case measure => (simp [intOf]) <;> omega
        · have HJx3 := Lib.hid hJx3
          clear hJx3
          gi_wp2
          refine bodyPost_ret (results_none rfl _ _ _) rfl ?_
          exact ⟨⟨_, rfl⟩, .inr HJx3.out⟩
      | some k =>
        obtain ⟨hkr, -, -⟩ := idx_some hx
        have hsp := spB_some r [] k hx
        rw [List.nil_append, ← hd] at hsp
        have HLi : Hid (L[i]? = some (r.take k)) := Lib.hid (by rw [← List.head?_drop, hsp]; rfl)
        have hiE : i + 1 ≤ L.length := by have := congrArg List.length hsp; have h2 := spB_pos 10 (r.drop (k + 1)) []; simp at this; omega
        have Hnx : Hid (L.drop (i + 1) = spB 10 [] (r.drop (k + 1))) := Lib.hid (by rw [← List.drop_drop, hsp]; rfl)
        have Hx := Lib.hid hx
        have hrl2 : (r.drop (k + 1)).length ≤ s.length := by rw [List.length_drop]; omega
        clear hx hsp hd
        obtain ⟨r1, hr1⟩ : ∃ x, r.take k = x := ⟨_, rfl⟩
        obtain ⟨r2, hr2⟩ : ∃ x, r.drop (k + 1) = x := ⟨_, rfl⟩
        have HC : Hid (Calls Tryd.prog 80 #[.string ⟨r.toArray⟩, .int .u8 ((10 : UInt8).toNat : Int)] wr fun e w' => e = .returned (.tuple #[stv r1, stv r2, .bool true]) ∧ Below wr.heap.size wr w') := Lib.hid (by rw [← hr1, ← hr2]; exact cut_some Hx.out (by omega))
        rw [hr1] at HLi
        rw [hr2] at Hnx hrl2
        clear hr1 hr2 hkr Hx
        gi_wp2
        refine ⟨trivial, rfl, ?_⟩
        gi_at_call 80
        refine (callsIn_wide.2 (HC.out)).mono ?_
        rintro e w2 ⟨rfl, hb2⟩
        have Hb2 := Lib.hid hb2
        clear hb2
        obtain ⟨fn, tmps, assign, body, hy, hR⟩ := HY.out i (i + 1, r1) _ w2 (own_still HJ.out HJi.out Hb2.out) (numL_at HLi.out) rfl
        simp only [Int.natCast_add, Int.cast_ofNat_Int] at hy
        have HR := Lib.hid hR
        clear hR
        gi_wp2
        refine ⟨rfl, HR.out.mono ?_⟩
        rintro e W3 (⟨rfl, hJ3, _, _⟩ | ⟨rfl, hJx3, _⟩)
        · have HJ3 := Lib.hid hJ3
          clear hJ3
          gi_wp2
          go_roundw
          case rel => exact ⟨i + 1, r2, true, rfl, rfl, by go_num, hrl2, by omega, (fun _ => Hnx.out), (fun h => by cases h), HJ3.out⟩
          case measure => (simp [intOf]) <;> omega
        · have HJx3 := Lib.hid hJx3
          clear hJx3
          gi_wp2
          refine bodyPost_ret (results_none rfl _ _ _) rfl ?_
          exact ⟨⟨_, rfl⟩, .inr HJx3.out⟩
end Go.Proofs.YtgebcifkbldfoaaDoor

/- A line's fields (layer 16). -/
namespace Go.Proofs.YtgebcifkbldfoaaDoor
open Go.RowKit
attribute [local go_sem] ba_get ext_take ext_drop

/-- what stands ahead of a byte. -/
def hdC (c : UInt8) (l : List UInt8) : List UInt8 := match idx c l with
  | none => l
  | some k => l.take k
/-- a line's fields. -/
def lnF (any : Bool) (s : List UInt8) : List (List UInt8) :=
  if Lib.trimSuffix s [13] = [] ∨ 1000 < (Lib.trimSuffix s [13]).length then []
  else if any = true then flds (hdC 35 (Lib.trimSuffix s [13]))
  else if (Lib.trimSuffix s [13]).head? = some 35 ∨ (Lib.trimSuffix s [13]).head? = some 59 then []
  else flds (Lib.trimSuffix s [13])
theorem trS_len (s : List UInt8) : (Lib.trimSuffix s [13]).length ≤ s.length := by
  unfold Lib.trimSuffix
  split
  · rw [List.length_take]; omega
  · exact Nat.le_refl _
theorem trim_any (s : List UInt8) (w : World) (hl : s.length ≤ 1000000000) : Calls Tryd.prog 60 #[.string ⟨s.toArray⟩, .string ⟨#[13]⟩] w fun e w' => e = .returned (.string ⟨(Lib.trimSuffix s [13]).toArray⟩) ∧ Below w.heap.size w w' :=
  (Tryd.strings_TrimSuffix ⟨s.toArray⟩ ⟨#[13]⟩ w (by show s.toArray.size ≤ _; simp; omega)).mono fun e w' ⟨he, hw⟩ => ⟨by rw [he], by rw [hw]; exact Below.refl _ _⟩
set_option maxRecDepth 100000 in
set_option maxHeartbeats 1000000 in
theorem lnf_any (any : Bool) (s : List UInt8) (w : World) (hl : s.length ≤ 1000000000) : Calls Tryd.prog 78 #[.string ⟨s.toArray⟩, .bool any] w (TextsPost w (lnF any s)) := by
  obtain ⟨t, ht⟩ : ∃ t, Lib.trimSuffix s [13] = t := ⟨_, rfl⟩
  have htl : t.length ≤ 1000000000 := by rw [← ht]; exact Nat.le_trans (trS_len s) hl
  have HT := Lib.hid (trim_any s w hl)
  have Hf : Hid (lnF any s = if t = [] ∨ 1000 < t.length then [] else if any = true then flds (hdC 35 t) else if t.head? = some 35 ∨ t.head? = some 59 then [] else flds t) := Lib.hid (by rw [← ht]; rfl)
  rw [ht] at HT
  generalize lnF any s = F at *
  clear ht
  by_cases he : t = []
  · subst he
    obtain rfl : F = [] := Hf.out.trans (if_pos (.inl rfl))
    clear Hf
    go_enter Tryd.func78, Tryd.ntmps78
    go_wp2_with (first
      | (go_at_call 60; refine HT.out.mono ?_; rintro e w1 ⟨rfl, hb1⟩; have Hb1 := Lib.hid hb1; clear hb1; refine holdL ?_))
    refine Lib.hid ?_
    go_wp2_with (fail)
    go_ret
    exact ⟨_, rfl, Sl.nil _ _, Hb1.out⟩
  · have e1 : t.isEmpty = false := by cases t <;> simp_all
    by_cases hlong : 1000 < t.length
    · obtain rfl : F = [] := Hf.out.trans (if_pos (.inr hlong))
      have e2 : decide ((1000 : Int) < (t.length : Int)) = true := decide_eq_true (by omega)
      clear Hf he
      go_enter Tryd.func78, Tryd.ntmps78
      go_wp2_with (first
        | (go_at_call 60; refine HT.out.mono ?_; rintro e w1 ⟨rfl, hb1⟩; have Hb1 := Lib.hid hb1; clear hb1; refine holdL ?_))
      refine Lib.hid ?_
      go_wp2_with (fail)
      go_ret
      exact ⟨_, rfl, Sl.nil _ _, Hb1.out⟩
    · have e2 : decide ((1000 : Int) < (t.length : Int)) = false := decide_eq_false (by omega)
      have hne : ¬ (t = [] ∨ 1000 < t.length) := fun h => h.elim he hlong
      have hF := Hf.out
      rw [if_neg hne] at hF
      clear Hf hne
      cases any with
      | true =>
        rw [if_pos rfl] at hF
        unfold hdC at hF
        clear he
        cases hx : idx 35 t with
        | none =>
          rw [hx] at hF
          have HF : Hid (F = flds t) := Lib.hid hF
          have HX := Lib.hid hx
          clear hF hx
          go_enter Tryd.func78, Tryd.ntmps78
          go_wp2_with (first
            | (go_at_call 60; refine HT.out.mono ?_; rintro e w1 ⟨rfl, hb1⟩; have Hb1 := Lib.hid hb1; clear hb1; refine holdL ?_))
          refine Lib.hid ?_
          go_wp2_with (first
            | (go_at_call 80; refine (cut_none HX.out (by omega)).mono ?_; rintro e w2 ⟨rfl, hb2⟩; have Hb2 := Lib.hid (Hb1.out.trans (hb2.mono Hb1.out.size)); clear hb2)
            | (go_at_call 49; refine (fields_any t _ htl).mono ?_; rintro e w3 ⟨v3, rfl, hs3, hb3⟩))
          go_ret
          exact ⟨_, rfl, by rw [HF.out]; exact hs3, bel_tr Hb2.out hb3⟩
        | some k =>
          rw [hx] at hF
          have HF : Hid (F = flds (t.take k)) := Lib.hid hF
          have HX := Lib.hid hx
          have htk : (t.take k).length ≤ 1000000000 := by rw [List.length_take]; omega
          clear hF hx
          go_enter Tryd.func78, Tryd.ntmps78
          go_wp2_with (first
            | (go_at_call 60; refine HT.out.mono ?_; rintro e w1 ⟨rfl, hb1⟩; have Hb1 := Lib.hid hb1; clear hb1; refine holdL ?_))
          refine Lib.hid ?_
          go_wp2_with (first
            | (go_at_call 80; refine (cut_some HX.out (by omega)).mono ?_; rintro e w2 ⟨rfl, hb2⟩; have Hb2 := Lib.hid (Hb1.out.trans (hb2.mono Hb1.out.size)); clear hb2)
            | (go_at_call 49; refine (fields_any (t.take k) _ htk).mono ?_; rintro e w3 ⟨v3, rfl, hs3, hb3⟩))
          go_ret
          exact ⟨_, rfl, by rw [HF.out]; exact hs3, bel_tr Hb2.out hb3⟩
      | false =>
        rw [if_neg (by decide)] at hF
        obtain ⟨x, hx⟩ : ∃ x, t[0]? = some x := by cases t with | nil => exact absurd rfl he | cons x t' => exact ⟨x, rfl⟩
        obtain ⟨n0, hx0⟩ := List.getElem?_eq_some_iff.1 hx
        rw [List.head?_eq_getElem?, hx] at hF
        have n1 : (0 : Int) < (t.length : Int) := by omega
        clear he hx
        by_cases h1 : x = 35
        · have HF : Hid (F = []) := Lib.hid (hF.trans (if_pos (.inl (by rw [h1]))))
          have i1 : (((t[0].toNat : Nat) : Int) == 35) = true := by rw [hx0, h1]; rfl
          clear hF hx0
          go_enter Tryd.func78, Tryd.ntmps78
          go_wp2_with (first
            | (go_at_call 60; refine HT.out.mono ?_; rintro e w1 ⟨rfl, hb1⟩; have Hb1 := Lib.hid hb1; clear hb1; refine holdL ?_))
          refine Lib.hid ?_
          go_wp2_with (fail)
          go_ret
          exact ⟨_, rfl, by rw [HF.out]; exact Sl.nil _ _, Hb1.out⟩
        · have i1 : (((t[0].toNat : Nat) : Int) == 35) = false := by
            rw [hx0, beq_eq_false_iff_ne]
            intro h
            exact h1 (UInt8.toNat.inj (by have : (35 : UInt8).toNat = 35 := rfl; omega))
          by_cases h2 : x = 59
          · have HF : Hid (F = []) := Lib.hid (hF.trans (if_pos (.inr (by rw [h2]))))
            have i2 : (((t[0].toNat : Nat) : Int) == 59) = true := by rw [hx0, h2]; rfl
            clear hF hx0
            go_enter Tryd.func78, Tryd.ntmps78
            go_wp2_with (first
              | (go_at_call 60; refine HT.out.mono ?_; rintro e w1 ⟨rfl, hb1⟩; have Hb1 := Lib.hid hb1; clear hb1; refine holdL ?_))
            refine Lib.hid ?_
            go_wp2_with (fail)
            go_ret
            exact ⟨_, rfl, by rw [HF.out]; exact Sl.nil _ _, Hb1.out⟩
          · have i2 : (((t[0].toNat : Nat) : Int) == 59) = false := by
              rw [hx0, beq_eq_false_iff_ne]
              intro h
              exact h2 (UInt8.toNat.inj (by have : (59 : UInt8).toNat = 59 := rfl; omega))
            have HF : Hid (F = flds t) := Lib.hid (hF.trans (if_neg (by intro h; rcases h with h | h; · exact h1 (by simpa using h)
                                                                        · exact h2 (by simpa using h))))
            clear hF hx0
            go_enter Tryd.func78, Tryd.ntmps78
            go_wp2_with (first
              | (go_at_call 60; refine HT.out.mono ?_; rintro e w1 ⟨rfl, hb1⟩; have Hb1 := Lib.hid hb1; clear hb1; refine holdL ?_))
            refine Lib.hid ?_
            go_wp2_with (first
              | (go_at_call 49; refine (fields_any t _ htl).mono ?_; rintro e w3 ⟨v3, rfl, hs3, hb3⟩))
            go_ret
            exact ⟨_, rfl, by rw [HF.out]; exact hs3, bel_tr Hb1.out hb3⟩
end Go.Proofs.YtgebcifkbldfoaaDoor

/- The reference's Fields of a line (16). -/
namespace Go.Proofs.YtgebcifkbldfoaaDoor
open Go.RowKit
attribute [local go_sem] ba_get ext_take ext_drop

/-- what stands ahead of place k holds no d. -/
def NoB (d : UInt8) (t : List UInt8) (k : Nat) : Prop := ∀ j, (h : j < t.length) → j < k → t[j] ≠ d
theorem NoB.next {d : UInt8} {t : List UInt8} {k : Nat} (h : NoB d t k) (hk : k < t.length) (hd : t[k] ≠ d) : NoB d t (k + 1) := by
  intro j hj hlt
  rcases Nat.lt_or_ge j k with h1 | h1
  · exact h j hj h1
  · obtain rfl : j = k := by omega
    exact hd
attribute [local go_sem] ba_app
end Go.Proofs.YtgebcifkbldfoaaDoor
