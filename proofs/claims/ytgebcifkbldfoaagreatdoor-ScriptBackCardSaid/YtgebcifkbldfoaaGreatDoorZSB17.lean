/- Contracts and plain lemmas of our own, merged. -/
import Derived.Test.YtgebcifkbldfoaaGreatDoorZSB10
import Derived.Test.YtgebcifkbldfoaaGreatDoorZSB13
import Derived.Test.YtgebcifkbldfoaaGreatDoorZSB16
import Derived.Test.YtgebcifkbldfoaaGreatDoorZSB4
import Derived.Test.YtgebcifkbldfoaaGreatDoorZSB5
import Derived.Laws.ResultCell
import Derived.Test.YtgebcifkbldfoaaGreatDoorShelf
import Derived.Great.Walk
import Derived.Laws.CopyOwn
/- The contracts of quad.Text, quad.Parse and of their references. -/
namespace Go.Proofs.YtgebcifkbldfoaaGreatDoor
open Go.RowKit
attribute [local go_sem] ba_get ext_take ext_drop ext_any ba_app

theorem Tab.below {w w' : World} (h : Tab w) (hb : Below w.heap.size w w') : Tab w' := Lib.tabBelow_of_tabIs h w' hb
/-- an address and an error are handed back. -/
theorem ret_adE {fn : Func} {p q : Tmp} (h : fn.results = #[.cell p 31, .tmp q]) {R : Ending → World → Prop} {a : Act} {w : World} {g : Nat} {t : TypeId} {b : Ad} {v : Value}
    (hp : a.tmps.getD p undef = .pointer (some ⟨g, 0, none⟩)) (hq : a.tmps.getD q undef = v) (hB : Bk w g t (adA b)) (hd : a.defers = []) (hR : R (.returned (.tuple #[.agg (adA b), v])) w) : bodyPost Tryz.prog fn R .ret a w := by
  refine bodyPost_ret_by (v := .tuple #[.agg (adA b), v]) ?_ hd hR
  have hp' : a.tmps[p]?.getD undef = .pointer (some ⟨g, 0, none⟩) := by simpa using hp
  have hq' : a.tmps[q]?.getD undef = v := by simpa using hq
  simp [results, h, hp', hq', asAddr, run_loadVar_row (P := Tryz.prog) w g t 31 (adA b) (0, 0) _ hB ad_under rfl (ad_size' b)]

theorem joi_qtx (a : Ad) : joi [46] [itu (a.b 0), itu (a.b 1), itu (a.b 2), itu (a.b 3)] = qtx a := joi_jB 46 _

set_option maxRecDepth 100000 in
set_option maxHeartbeats 1000000 in
theorem qtext_any (a : Ad) (w : World) (ht : Tab w) : Calls Tryz.prog 40 #[.agg (adA a)] w (StrPost w (qtx a)) := by
  have Ht := Lib.hid ht
  clear ht
  go_enter Tryz.func40, Tryz.ntmps40
  go_wp2_with (first
    | ((with_reducible refine wpList_boxB rfl _ _ rfl rfl ?_); intro g w1 hg hB hb hs; clear hg hs))
  have c0 := hB.cell 1
  have c1 := hB.cell 2
  have c2 := hB.cell 3
  have c3 := hB.cell 4
  rw [adA_1] at c0
  rw [adA_2] at c1
  rw [adA_3] at c2
  rw [adA_4] at c3
  have x0 := fun x : BelT w1 => x.cell c0
  have x1 := fun x : BelT w1 => x.cell c1
  have x2 := fun x : BelT w1 => x.cell c2
  have x3 := fun x : BelT w1 => x.cell c3
  have l0 := u8lt (a.b 0)
  have l1 := u8lt (a.b 1)
  have l2 := u8lt (a.b 2)
  have l3 := u8lt (a.b 3)
  clear c0 c1 c2 c3
  refine wp_region_bel_tail 20 (by kernel_rfl) (by kernel_rfl) ?_
  simp only [List.take_succ_cons, List.take_zero, List.drop_succ_cons, List.drop_zero]
  repeat (first
    | go_big_quiet_skip
    | (go_big_quiet_want; (go_big_quiet_op; first | go_big_quiet_on | go_big_quiet_call ((refine bel_call (digits_any _ _ (Ht.out.below (bel_tr hb (BelT.bel _))) (by omega) (by omega)))))))
  refine wpQuiet_nil ?_
  rintro _ ⟨x, rfl⟩
  have hbx := bel_tr hb x.bel
  have hsl := Sl.new x.at_ ([itu (a.b 0), itu (a.b 1), itu (a.b 2), itu (a.b 3)].map stv) 9
  have Hsl := Lib.hid hsl
  have hjl : (joi [46] [itu (a.b 0), itu (a.b 1), itu (a.b 2), itu (a.b 3)]).length ≤ 1000000000 := by rw [joi_qtx]; have := qtx_len a; omega
  have Hjl := Lib.hid hjl
  clear hsl hjl x0 x1 x2 x3
  go_wp2_with (first
    | (go_at_call 21; refine (join_any [46] [itu (a.b 0), itu (a.b 1), itu (a.b 2), itu (a.b 3)] _ _ Hsl.out (by simp) Hjl.out).mono ?_; rintro e w3 ⟨rfl, hb3⟩; rw [joi_qtx]))
  go_ret
  exact ⟨rfl, hbx.trans (((Below.refl _ _).alloc hbx.size _).trans (hb3.mono (by have := hbx.size; simp; omega)))⟩

def qL (a : Ad) : List (List UInt8) := [itu (a.b 0), itu (a.b 1), itu (a.b 2), itu (a.b 3)]
theorem qL_len (a : Ad) : (qL a).length = 4 := rfl
theorem qL_at (a : Ad) {k : Nat} (h : k < 4) : (qL a)[k]'(by rw [qL_len]; exact h) = itu (a.b k) := by
  match k, h with
  | 0, _ => rfl
  | 1, _ => rfl
  | 2, _ => rfl
  | 3, _ => rfl
theorem qL_joi (a : Ad) : joi [46] (qL a) = qtx a := joi_qtx a
theorem qL_le (a : Ad) {k : Nat} (h : k ≤ 4) : (joi [46] ((qL a).take k)).length ≤ 15 := by
  have h1 := joi_le (A := qL a) [46] k (by rw [qL_len]; exact h)
  rw [qL_joi] at h1
  have := qtx_len a
  omega
theorem qL_next0 (a : Ad) {k : Nat} (h : k = 0) : joi [46] ((qL a).take (k + 1)) = joi [46] ((qL a).take k) ++ itu (a.b k) := by
  subst h
  unfold joi qL
  simp [Lib.join_one, Lib.join_nil]
theorem qL_next (a : Ad) {k : Nat} (h : k < 4) (h0 : 0 < k) : joi [46] ((qL a).take (k + 1)) = joi [46] ((qL a).take k) ++ [46] ++ itu (a.b k) := by
  rw [joi_snoc [46] (by rw [qL_len]; exact h) h0, qL_at a h]
set_option maxRecDepth 100000 in
set_option maxHeartbeats 1000000 in
theorem rqtext_any (a : Ad) (w : World) : Calls Tryz.prog 43 #[.agg (adA a)] w (StrPost w (qtx a)) := by
  go_enter Tryz.func43, Tryz.ntmps43
  go_wp2_with (first
    | ((with_reducible refine wpList_boxB rfl _ _ rfl rfl ?_); intro g w1 hg hB hb hs; clear hg hs))
  go_loop [3, 4] (fun s i => ∃ k : Nat, k ≤ 4 ∧ i = .int .i64 k ∧ s = .string ⟨(joi [46] ((qL a).take k)).toArray⟩) (fun _ i => 4 - (intOf i).toNat)
  case atStart => exact ⟨0, by omega, rfl, rfl⟩
  case round =>
    obtain ⟨k, hk, rfl, rfl⟩ := hrel
    have hle := qL_le a hk
    by_cases hlt : k < 4
    · have c2 := hB.cell (k + 1)
      rw [adA_ip a (by omega)] at c2
      have c3 : w1.cell? ⟨g, 1 + k, none⟩ = some (.int .u8 ((a.b k).toNat : Int)) := by rw [Nat.add_comm]; exact c2
      clear c2
      have lk := u8lt (a.b k)
      have mk := itu_len (a.b k)
      have j1 : (k : Int) < 4 := by omega
      rcases Nat.eq_zero_or_pos k with h0 | h0
      · have hnx := qL_next0 a h0
        have Hnx := Lib.hid hnx
        have j0 : ¬ (0 : Int) < (k : Int) := by omega
        clear hnx h0
        generalize joi [46] ((qL a).take k) = T at *
        go_wp2_with fail
        refine (rdigits_any _ _ (by omega) (by omega)).mono ?_
        rintro e w' ⟨rfl, rfl⟩
        have j3 : (Lib.itoa (((a.b k).toNat : Nat) : Int)).length ≤ 3 := mk
        go_wp2
        go_round
        case rel => exact ⟨k + 1, by omega, by go_num, by rw [Hnx.out]; rfl⟩
        case measure => simp [intOf]; omega
      · have hnx := qL_next a hlt h0
        have Hnx := Lib.hid hnx
        clear hnx
        have j0 : (0 : Int) < (k : Int) := by omega
        generalize joi [46] ((qL a).take k) = T at *
        have j2 : T.length + 1 ≤ 16 := by omega
        go_wp2_with fail
        refine (rdigits_any _ _ (by omega) (by omega)).mono ?_
        rintro e w' ⟨rfl, rfl⟩
        have j3 : (Lib.itoa (((a.b k).toNat : Nat) : Int)).length ≤ 3 := mk
        go_wp2
        go_round
        case rel => exact ⟨k + 1, by omega, by go_num, by rw [Hnx.out, List.append_assoc]; rfl⟩
        case measure => simp [intOf]; omega
    · have hk4 : k = 4 := by omega
      subst hk4
      go_wp2
      go_ret
      exact ⟨by rw [← qL_joi]; rfl, hb⟩

/-! ### reading -/
theorem ofval_lt {l : List UInt8} (h : nokB l = true) : val l < 256 := by
  unfold nokB at h
  have := (of_decide_eq_true h).2.2
  omega
def QpPost (w : World) (s : List UInt8) (e : Ending) (w' : World) : Prop := e = .returned (adE (qpA s) 5) ∧ Below w.heap.size w w'
theorem QpPost.no {w w' : World} {s : List UInt8} (h : qpA s = none) (hb : Below w.heap.size w w') : QpPost w s (.returned (.tuple #[.agg (adA ad0), .int .i64 5])) w' := ⟨by rw [h]; rfl, hb⟩
theorem QpPost.yes {w w' : World} {s : List UInt8} {x : Ad} (h : qpA s = some x) (hb : Below w.heap.size w w') : QpPost w s (.returned (.tuple #[.agg (adA x), .int .i64 0])) w' := ⟨by rw [h]; rfl, hb⟩
theorem qpA_bad {s : List UInt8} {k : Nat} (hk : k < 4) (h : nokB (qpart s k) = false) : qpA s = none := by
  unfold qpA
  rw [if_neg]
  rintro ⟨h1, _⟩
  rw [qokB_bad hk h] at h1
  cases h1
theorem qpA_ne {s : List UInt8} (h : qtx (qad (qpart s) 4) ≠ s) : qpA s = none := by unfold qpA; rw [if_neg (fun k => h k.2)]
theorem qpA_yes {s : List UInt8} (h1 : qokB (qpart s) 4 = true) (h : qtx (qad (qpart s) 4) = s) : qpA s = some (qad (qpart s) 4) := by unfold qpA; rw [if_pos ⟨h1, h⟩]
def QpRel (w : World) (s : List UInt8) (g2 g4 k : Nat) (wr : World) : Prop :=
  Bk wr g2 31 (adA ad0) ∧ Bk wr g4 31 (adA (qad (qpart s) k)) ∧ qokB (qpart s) k = true ∧ Below w.heap.size w wr
set_option maxRecDepth 100000 in
set_option maxHeartbeats 1000000 in
theorem qparse_any (s : List UInt8) (w : World) (ht : Tab w) (hl : s.length ≤ 1000000000) : Calls Tryz.prog 77 #[.string ⟨s.toArray⟩] w (QpPost w s) := by
  have Ht := Lib.hid ht
  clear ht
  go_enter Tryz.func77, Tryz.ntmps77
  go_wp2_with (first
    | ((with_reducible refine wpList_allocAd (o := ⟨some 2, _, _, _, _, _⟩) rfl rfl ?_); intro g2 w1 hg hB2 hb1 hs; have hg2 : w.heap.size ≤ g2 := Nat.le_of_eq hg.symm; have hs2 : g2 + 1 = w1.heap.size := hs.symm; clear hg hs)
    | (with_reducible refine wpList_buildL rfl 31 _ rfl built_4 rfl ?_)
    | ((with_reducible refine wpList_allocAd (o := ⟨some 4, _, _, _, _, _⟩) rfl rfl ?_); intro g4 w2 hg hB4 hb2 hs; have hg4 : g2 < g4 := by omega
       clear hg hs hs2)
    | ((with_reducible refine wpList_storeAd rfl _ _ rfl rfl rfl hB4 ?_); intro w3 hB4' hS3))
  have R0 : QpRel w s g2 g4 0 w3 := ⟨(hB2.bel hb2).stays hS3 (by omega), hB4', rfl, (bel_tr hb1 hb2).trans (hS3.below (by omega))⟩
  clear hB2 hB4 hB4' hS3 hb1 hb2
  go_loopw [5, 14] (fun r i wr => ∃ k : Nat, k ≤ 4 ∧ i = .int .i64 k ∧ r = .string ⟨(qst s k).toArray⟩ ∧ QpRel w s g2 g4 k wr) (fun _ i _ => 4 - (intOf i).toNat)
  case atStart => exact ⟨0, by omega, rfl, rfl, R0⟩
  case round =>
    obtain ⟨k, hk, rfl, rfl, r1, r2, r3, r4⟩ := hrel
    clear R0
    by_cases hlt : k < 4
    · have j1 : (k : Int) < 4 := by omega
      have hql := qst_len s k
      have hpl := qpart_len s k
      cases hn : nokB (qpart s k) with
      | false =>
        have hbad := qpA_bad hlt hn
        obtain ⟨e, he1, he2⟩ := numV_no255 hn
        have He1 := Lib.hid he1
        have Hbad := Lib.hid hbad
        have i0 : (e != 0) = true := by rcases he2 with rfl | rfl <;> rfl
        clear he1 hbad he2 hn
        go_wp2_with (first
          | (go_at_call 87; refine (cut_any 46 _ _ (by omega)).mono ?_; rintro ed w4 ⟨rfl, hb4⟩; rw [cutV_eq])
          | (go_at_call 63; refine (number_any (qpart s k) _ _ (by omega) (by omega) (by omega)).mono ?_; rintro ed w5 ⟨rfl, rfl⟩; rw [He1.out])
          | (with_reducible refine wpList_buildL rfl 31 _ rfl built_0 rfl ?_)
          | ((with_reducible refine wpList_storeAd rfl _ _ rfl rfl rfl (r1.bel hb4) ?_); intro w6 hB6 hS6))
        exact ret_adE Tryz.results77 rfl rfl hB6 rfl (QpPost.no Hbad.out ((bel_tr r4 hb4).trans (hS6.below (by omega))))
      | true =>
        have hok := numV_ok255 hn
        have hv := ofval_lt hn
        have hq := qokB_next r3 hn
        have Hok := Lib.hid hok
        have Hq := Lib.hid hq
        clear hok hq hn
        have hu : (UInt8.ofNat (val (qpart s k))).toNat = val (qpart s k) := UInt8.toNat_ofNat_of_lt' hv
        have Hset := Lib.hid (adA_setB (qad (qpart s) k) (show k < 16 by omega) (UInt8.ofNat (val (qpart s k))))
        have Hu := Lib.hid hu
        clear hu
        have i2 : ((val (qpart s k) : Nat) : Int) < 256 := by omega
        have q1 : ∀ wz, Bk wz g4 31 (adA (qad (qpart s) k)) → wz.cell? ⟨g4, 1 + k, none⟩ = some (.int .u8 (((qad (qpart s) k).b k).toNat : Int)) := fun wz hz => by
          have := hz.cell (k + 1)
          rw [adA_ip _ (by omega)] at this
          rw [Nat.add_comm]; exact this
        have Q1 := Lib.hid q1
        clear q1
        go_wp2_with (first
          | (go_at_call 87; refine (cut_any 46 _ _ (by omega)).mono ?_; rintro ed w4 ⟨rfl, hb4⟩; rw [cutV_eq]
             have r14 := r1.bel hb4
             have r24 := r2.bel hb4
             have q4 := Q1.out _ r24
             have f4 := r24.free (1 + k))
          | (go_at_call 63; refine (number_any (qpart s k) _ _ (by omega) (by omega) (by omega)).mono ?_; rintro ed w5 ⟨rfl, rfl⟩; rw [Hok.out]))
        go_roundw
        case rel =>
          refine ⟨k + 1, by omega, by go_num, rfl, ?_, ?_, Hq.out, (bel_tr r4 hb4).setCell (show w.heap.size ≤ g4 by omega) _⟩
          · exact r14.far (by show g2 ≠ g4; omega) _
          · have := r24.set_ (1 + k) (.int .u8 ((val (qpart s k) : Nat) : Int))
            rw [← Hu.out, Nat.add_comm 1 k, Hset.out] at this
            rw [← Hu.out, Nat.add_comm 1 k]
            exact this
        case measure => simp [intOf]; omega
    · have hk4 : k = 4 := by omega
      subst hk4
      by_cases hne : qtx (qad (qpart s) 4) = s
      · have hyes := qpA_yes r3 hne
        have Hyes := Lib.hid hyes
        have i0 : (qtx (qad (qpart s) 4) == s) = true := by simpa using hne
        clear hyes hne r3
        go_wp2_with (first
          | (with_reducible refine wpList_loadAd (o := ⟨some 38, _, _, _, _, _⟩) rfl _ rfl rfl r2 ?_)
          | (go_at_call 40; refine (qtext_any _ _ (Ht.out.below r4)).mono ?_; rintro ed w4 ⟨rfl, hb4⟩; have r14 := r1.bel hb4; have r24 := r2.bel hb4)
          | (with_reducible refine wpList_loadAd (o := ⟨some 43, _, _, _, _, _⟩) rfl _ rfl rfl r24 ?_)
          | ((with_reducible refine wpList_storeAd rfl _ _ rfl rfl rfl r14 ?_); intro w6 hB6 hS6))
        exact ret_adE Tryz.results77 rfl rfl hB6 rfl (QpPost.yes Hyes.out ((bel_tr r4 hb4).trans (hS6.below (by omega))))
      · have hno := qpA_ne hne
        have Hno := Lib.hid hno
        have i0 : (qtx (qad (qpart s) 4) == s) = false := by simpa using hne
        clear hno hne r3
        go_wp2_with (first
          | (with_reducible refine wpList_loadAd (o := ⟨some 38, _, _, _, _, _⟩) rfl _ rfl rfl r2 ?_)
          | (go_at_call 40; refine (qtext_any _ _ (Ht.out.below r4)).mono ?_; rintro ed w4 ⟨rfl, hb4⟩; have r14 := r1.bel hb4; have r24 := r2.bel hb4)
          | (with_reducible refine wpList_buildL rfl 31 _ rfl built_0 rfl ?_)
          | ((with_reducible refine wpList_storeAd rfl _ _ rfl rfl rfl r14 ?_); intro w6 hB6 hS6))
        exact ret_adE Tryz.results77 rfl rfl hB6 rfl (QpPost.no Hno.out ((bel_tr r4 hb4).trans (hS6.below (by omega))))
end Go.Proofs.YtgebcifkbldfoaaGreatDoor

/- The contract of quad.Loose. -/
namespace Go.Proofs.YtgebcifkbldfoaaGreatDoor
open Go.RowKit
attribute [local go_sem] ba_get ext_take ext_drop ext_any ba_app

def LoPost (w : World) (s : List UInt8) (e : Ending) (w' : World) : Prop := e = .returned (adS (loose s)) ∧ Below w.heap.size w w'
theorem LoPost.no {w w' : World} {s : List UInt8} {c : Int} (h : loose s = .inl c) (hb : Below w.heap.size w w') : LoPost w s (.returned (.tuple #[.agg (adA ad0), .int .i64 c])) w' := ⟨by rw [h]; rfl, hb⟩
theorem LoPost.yes {w w' : World} {s : List UInt8} {x : Ad} (h : loose s = .inr x) (hb : Below w.heap.size w w') : LoPost w s (.returned (.tuple #[.agg (adA x), .int .i64 0])) w' := ⟨by rw [h]; rfl, hb⟩
def LoC (D : List Int) (b1 o1 : Nat) (wr : World) : Prop := ∀ (j : Nat) (hj : j < D.length), wr.cell? ⟨b1, o1 + j, none⟩ = some (.int .i64 D[j])
theorem LoC.stays {D : List Int} {b1 o1 g : Nat} {w w' : World} (h : LoC D b1 o1 w) (hs : Stays g w w') (hne : b1 ≠ g) : LoC D b1 o1 w' := fun j hj => (World.cell?_of_block (hs.block b1 hne)).trans (h j hj)
end Go.Proofs.YtgebcifkbldfoaaGreatDoor

/- The walk of QuadBack. -/
namespace Go.Proofs.YtgebcifkbldfoaaGreatDoor
open Go.RowKit
attribute [local go_sem] ba_get ext_take ext_drop ext_any ba_app

theorem qtx_F (a : Ad) : qtx a = qtx (adF a) := rfl
theorem qpA_of (a : Ad) : qpA (qtx a) = some (adF a) := by rw [qtx_F]; exact qpA_qtx _ _ _ _
end Go.Proofs.YtgebcifkbldfoaaGreatDoor

/- Addresses of Inet6 in writing, in plain words: groups, rows of noughts, texts. No walk here. -/
namespace Go.Proofs.YtgebcifkbldfoaaGreatDoor
open Go.RowKit

/-- a group of an address. -/
def grp (a : Ad) (i : Nat) : Nat := 256 * (a.b (2 * i)).toNat + (a.b (2 * i + 1)).toNat
theorem grp_lt (a : Ad) (i : Nat) : grp a i < 65536 := by
  have h0 := (a.b (2 * i)).toNat_lt
  have h1 := (a.b (2 * i + 1)).toNat_lt
  unfold grp
  omega
/-- are n groups from f on 0? -/
def emp (a : Ad) (f n : Nat) : Bool := (List.range n).all (fun j => decide (grp a (f + j) = 0))
theorem emp_next {a : Ad} {f k : Nat} (h : emp a f k = true) (h2 : grp a (f + k) = 0) : emp a f (k + 1) = true := by
  unfold emp at h ⊢
  rw [List.range_succ, List.all_append, h]
  simp [h2]
theorem emp_bad {a : Ad} {f k n : Nat} (hk : k < n) (h2 : grp a (f + k) ≠ 0) : emp a f n = false := by
  unfold emp
  rw [Bool.eq_false_iff]
  intro h
  have := List.all_eq_true.1 h k (by simpa using hk)
  simp [h2] at this
def findF (a : Ad) (n : Nat) : Nat → Nat → Option Nat
  | 0, _ => none
  | k + 1, f => if emp a f n = true then some f else findF a n k (f + 1)
def rowN (a : Ad) : Nat → Nat × Nat
  | 0 => (8, 0)
  | 1 => (8, 0)
  | n + 2 => match findF a (n + 2) (9 - (n + 2)) 0 with
    | some f => (f, n + 2)
    | none => rowN a (n + 1)
/-- the longest row of at least two groups 0, the first one of it. -/
def rowR (a : Ad) : Nat × Nat := rowN a 8
def rowI (a : Ad) (n f : Nat) : Nat × Nat := match findF a n (9 - n - f) f with
  | some f => (f, n)
  | none => rowN a (n - 1)
theorem rowN_I {a : Ad} {n : Nat} (h : 2 ≤ n) : rowN a n = rowI a n 0 := by
  obtain ⟨m, rfl⟩ : ∃ m, n = m + 2 := ⟨n - 2, by omega⟩
  unfold rowI
  rw [rowN]
  rfl
theorem rowI_hit {a : Ad} {n f : Nat} (h : f + n ≤ 8) (he : emp a f n = true) : rowI a n f = (f, n) := by
  unfold rowI
  rw [show 9 - n - f = (8 - n - f) + 1 by omega, findF, if_pos he]
theorem rowI_miss {a : Ad} {n f : Nat} (h : f + n ≤ 8) (he : emp a f n = false) : rowI a n f = rowI a n (f + 1) := by
  unfold rowI
  rw [show 9 - n - f = (8 - n - f) + 1 by omega, findF, if_neg (by rw [he]; simp), show 8 - n - f = 9 - n - (f + 1) by omega]
theorem rowI_end {a : Ad} {n f : Nat} (h : ¬ f + n ≤ 8) : rowI a n f = rowN a (n - 1) := by
  unfold rowI
  rw [show 9 - n - f = 0 by omega, findF]
theorem rowN_small {a : Ad} {n : Nat} (h : n < 2) : rowN a n = (8, 0) := by
  match n, h with
  | 0, _ => rfl
  | 1, _ => rfl
theorem findF_bd {a : Ad} {n : Nat} : ∀ {k f f' : Nat}, findF a n k f = some f' → f ≤ f' ∧ f' < f + k ∧ emp a f' n = true := by
  intro k
  induction k with
  | zero => intro f f' h; cases h
  | succ k ih =>
    intro f f' h
    rw [findF] at h
    split at h
    · next he => injection h with h; subst h; exact ⟨Nat.le_refl _, by omega, he⟩
    · obtain ⟨h1, h2, h3⟩ := ih h; exact ⟨by omega, by omega, h3⟩
theorem rowN_bd (a : Ad) : ∀ n, n ≤ 8 → ((rowN a n).1 + (rowN a n).2 ≤ 8 ∧ ((rowN a n).2 = 0 ∧ (rowN a n).1 = 8 ∨ 2 ≤ (rowN a n).2)) := by
  intro n
  induction n with
  | zero => intro _; simp [rowN]
  | succ n ih =>
    intro hn
    rcases n with _ | n
    · simp [rowN]
    · rw [rowN]
      cases hf : findF a (n + 2) (9 - (n + 2)) 0 with
      | some f =>
        have := findF_bd hf
        simp only
        omega
      | none => exact ih (by omega)
theorem rowR_bd (a : Ad) : (rowR a).1 + (rowR a).2 ≤ 8 ∧ ((rowR a).2 = 0 ∧ (rowR a).1 = 8 ∨ 2 ≤ (rowR a).2) := rowN_bd a 8 (Nat.le_refl _)

def fig (d : Nat) : UInt8 := UInt8.ofNat (if d < 10 then 48 + d else 87 + d)
/-- the figures of a number below 16^k, none ahead. -/
def hxF : Nat → Nat → List UInt8
  | 0, _ => []
  | k + 1, n => if n = 0 then [] else hxF k (n / 16) ++ [fig (n % 16)]
def hexT (n : Nat) : List UInt8 := if n = 0 then [48] else hxF 4 n
theorem hxF_zero (k : Nat) : hxF k 0 = [] := by cases k <;> rfl
theorem hxF_len (k : Nat) : ∀ n, (hxF k n).length ≤ k := by
  induction k with
  | zero => intro n; simp [hxF]
  | succ k ih =>
    intro n
    rw [hxF]
    split
    · simp
    · have := ih (n / 16); simp; omega
theorem hexT_len (n : Nat) : (hexT n).length ≤ 4 := by
  unfold hexT
  split
  · simp
  · exact hxF_len 4 n
def mapB (a : Ad) : Bool := emp a 0 5 && decide (grp a 5 = 65535)
/-- the text of the first i groups. -/
def txG (a : Ad) (f n : Nat) : Nat → List UInt8
  | 0 => []
  | i + 1 => if f ≤ i ∧ i < f + n then (if i = f then txG a f n i ++ [58, 58] else txG a f n i)
    else (if 0 < i ∧ i ≠ f + n then txG a f n i ++ [58] else txG a f n i) ++ hexT (grp a i)
def ad12 (a : Ad) : Ad := adOf (a.b 12) (a.b 13) (a.b 14) (a.b 15)
def ffff : List UInt8 := [58, 58, 102, 102, 102, 102, 58]
def bareT (a : Ad) : List UInt8 := if mapB a = true then ffff ++ qtx (ad12 a) else txG a (rowR a).1 (rowR a).2 8
/-- an address of Inet6, written. -/
def colT (a : Ad) : List UInt8 := if 0 < a.zone then bareT a ++ 37 :: Lib.itoa a.zone else bareT a
theorem txG_len (a : Ad) (f n : Nat) : ∀ i, (txG a f n i).length ≤ 6 * i := by
  intro i
  induction i with
  | zero => simp [txG]
  | succ i ih =>
    have := hexT_len (grp a i)
    rw [txG]
    split
    · split <;> simp <;> omega
    · split <;> simp <;> omega
theorem bareT_len (a : Ad) : (bareT a).length ≤ 48 := by
  unfold bareT
  split
  · have := qtx_len (ad12 a); simp [ffff]; omega
  · exact txG_len a _ _ 8
end Go.Proofs.YtgebcifkbldfoaaGreatDoor

/- Addresses of Inet6, read, in plain words. No walk here. -/
namespace Go.Proofs.YtgebcifkbldfoaaGreatDoor
open Go.RowKit

theorem hexc_bd {c : UInt8} {d : Int} (h : hex (c.toNat : Int) = some d) : 0 ≤ d ∧ d < 16 := by
  have : ∀ c : Fin 256, ∀ d, hex (c.val : Int) = some d → 0 ≤ d ∧ d < 16 := by
    have h2 : ∀ c : Fin 256, (match hex (c.val : Int) with | some d => decide (0 ≤ d ∧ d < 16) | none => true) = true := by decide +kernel
    intro c d hd
    have := h2 c
    rw [hd] at this
    simpa using this
  exact this ⟨c.toNat, c.toNat_lt⟩ d h
/-- the number of figures of the base 16, behind n. -/
def grA : Nat → List UInt8 → Option Nat
  | n, [] => some n
  | n, c :: r => match hex (c.toNat : Int) with
    | some d => grA (16 * n + d.toNat) r
    | none => none
/-- a group that is written. -/
def grV (s : List UInt8) : Option Nat := if s = [] ∨ 4 < s.length then none else grA 0 s
theorem grA_bd : ∀ (s : List UInt8) (n m k : Nat), grA n s = some m → n < 16 ^ k → m < 16 ^ (k + s.length) := by
  intro s
  induction s with
  | nil => intro n m k h hn; rw [grA] at h; injection h with h; subst h; simpa using hn
  | cons c r ih =>
    intro n m k h hn
    rw [grA] at h
    cases hc : hex (c.toNat : Int) with
    | none => rw [hc] at h; cases h
    | some d =>
      rw [hc] at h
      have hd := hexc_bd hc
      have := ih (16 * n + d.toNat) m (k + 1) h (by rw [Nat.pow_succ]; omega)
      rw [List.length_cons, show k + (r.length + 1) = k + 1 + r.length by omega]
      exact this
theorem grV_lt {s : List UInt8} {m : Nat} (h : grV s = some m) : m < 65536 := by
  unfold grV at h
  split at h
  · cases h
  · next hs =>
    have := grA_bd s 0 m 0 h (by decide)
    have h2 : 16 ^ (0 + s.length) ≤ 16 ^ 4 := Nat.pow_le_pow_right (by decide) (by omega)
    have h3 : (16 : Nat) ^ 4 = 65536 := rfl
    omega
theorem grA_next {s : List UInt8} {i n : Nat} {d : Int} (h : i < s.length) (hd : hex (s[i].toNat : Int) = some d) : grA n (s.drop i) = grA (16 * n + d.toNat) (s.drop (i + 1)) := by
  rw [List.drop_eq_getElem_cons h, grA, hd]
theorem grA_bad {s : List UInt8} {i n : Nat} (h : i < s.length) (hd : hex (s[i].toNat : Int) = none) : grA n (s.drop i) = none := by
  rw [List.drop_eq_getElem_cons h, grA, hd]
/-- groups between colons; where last is true the last two may be an address of Inet. -/
def sidF (last : Bool) : List (List UInt8) → Option (List Nat)
  | [] => some []
  | p :: ps => match grV p with
    | some n => (sidF last ps).map (fun l => n :: l)
    | none => match qpA p with
      | some a => if last = true ∧ ps = [] then some [grp a 0, grp a 1] else none
      | none => none
def sidV (last : Bool) (s : List UInt8) : Option (List Nat) := if s = [] then some [] else sidF last (spB 58 [] s)
theorem sidF_lt {last : Bool} : ∀ {ps : List (List UInt8)} {l : List Nat}, sidF last ps = some l → ∀ n ∈ l, n < 65536 := by
  intro ps
  induction ps with
  | nil => intro l h; rw [sidF] at h; injection h with h; subst h; simp
  | cons p ps ih =>
    intro l h
    rw [sidF] at h
    cases hg : grV p with
    | some n =>
      rw [hg] at h
      simp only [Option.map_eq_some_iff] at h
      obtain ⟨l', h1, rfl⟩ := h
      intro m hm
      rw [List.mem_cons] at hm
      rcases hm with rfl | hm
      · exact grV_lt hg
      · exact ih h1 m hm
    | none =>
      rw [hg] at h
      cases hq : qpA p with
      | none => rw [hq] at h; cases h
      | some a =>
        rw [hq] at h
        simp only at h
        split at h
        · injection h with h; subst h
          intro m hm
          simp at hm
          rcases hm with rfl | rfl <;> exact grp_lt a _
        · cases h
theorem sidF_len {last : Bool} : ∀ {ps : List (List UInt8)} {l : List Nat}, sidF last ps = some l → l.length ≤ ps.length + 1 := by
  intro ps
  induction ps with
  | nil => intro l h; rw [sidF] at h; injection h with h; subst h; simp
  | cons p ps ih =>
    intro l h
    rw [sidF] at h
    cases hg : grV p with
    | some n =>
      rw [hg] at h
      simp only [Option.map_eq_some_iff] at h
      obtain ⟨l', h1, rfl⟩ := h
      have := ih h1
      simp; omega
    | none =>
      rw [hg] at h
      cases hq : qpA p with
      | none => rw [hq] at h; cases h
      | some a =>
        rw [hq] at h
        simp only at h
        split at h
        · injection h with h; subst h; simp
        · cases h
theorem sidV_lt {last : Bool} {s : List UInt8} {l : List Nat} (h : sidV last s = some l) : ∀ n ∈ l, n < 65536 := by
  unfold sidV at h
  split at h
  · injection h with h; subst h; simp
  · exact sidF_lt h
/-- a step of the groups. -/
def more (G : List Nat) (o : Option (List Nat)) : Option (List Nat) := o.map (fun l => G ++ l)
theorem more_nil (o : Option (List Nat)) : more [] o = o := by cases o <;> rfl
theorem more_hit {last : Bool} {G : List Nat} {p : List UInt8} {ps : List (List UInt8)} {n : Nat} (h : grV p = some n) : more G (sidF last (p :: ps)) = more (G ++ [n]) (sidF last ps) := by
  rw [sidF, h]
  unfold more
  cases sidF last ps <;> simp
theorem more_quad {G : List Nat} {p : List UInt8} {a : Ad} (h : grV p = none) (hq : qpA p = some a) : more G (sidF true [p]) = some (G ++ [grp a 0, grp a 1]) := by
  rw [sidF, h, hq]
  rfl
theorem more_none {last : Bool} {G : List Nat} {p : List UInt8} {ps : List (List UInt8)} (h : grV p = none) (hq : qpA p = none) : more G (sidF last (p :: ps)) = none := by
  rw [sidF, h, hq]
  rfl
theorem more_bad {last : Bool} {G : List Nat} {p : List UInt8} {ps : List (List UInt8)} {a : Ad} (h : grV p = none) (hq : qpA p = some a) (hl : last = false ∨ ps ≠ []) : more G (sidF last (p :: ps)) = none := by
  rw [sidF, h, hq]
  simp only
  rw [if_neg]
  · rfl
  · rintro ⟨h1, h2⟩
    rcases hl with hl | hl
    · rw [h1] at hl; cases hl
    · exact hl h2
/-- where two colons stand first. -/
def ddx : List UInt8 → Option Nat
  | a :: b :: r => if a = 58 ∧ b = 58 then some 0 else (ddx (b :: r)).map (· + 1)
  | _ => none
/-- the eight groups that are written. -/
def plV (s : List UInt8) : Option (List Nat) := match ddx s with
  | none => match sidV true s with
    | some l => if l.length = 8 then some l else none
    | none => none
  | some k => match sidV false (s.take k) with
    | some x => match sidV true (s.drop (k + 2)) with
      | some y => if x.length + y.length ≤ 7 then some (x ++ List.replicate (8 - x.length - y.length) 0 ++ y) else none
      | none => none
    | none => none
theorem plV_ok {s : List UInt8} {l : List Nat} (h : plV s = some l) : l.length = 8 ∧ ∀ n ∈ l, n < 65536 := by
  unfold plV at h
  cases hd : ddx s with
  | none =>
    rw [hd] at h
    simp only at h
    cases hs : sidV true s with
    | none => rw [hs] at h; cases h
    | some m =>
      rw [hs] at h
      simp only at h
      split at h
      · injection h with h; subst h; exact ⟨by assumption, sidV_lt hs⟩
      · cases h
  | some k =>
    rw [hd] at h
    simp only at h
    cases hx : sidV false (s.take k) with
    | none => rw [hx] at h; cases h
    | some x =>
      rw [hx] at h
      simp only at h
      cases hy : sidV true (s.drop (k + 2)) with
      | none => rw [hy] at h; cases h
      | some y =>
        rw [hy] at h
        simp only at h
        split at h
        · next hl =>
          injection h with h; subst h
          refine ⟨by simp; omega, fun n hn => ?_⟩
          rw [List.mem_append, List.mem_append] at hn
          rcases hn with (hn | hn) | hn
          · exact sidV_lt hx n hn
          · have := (List.mem_replicate.1 hn).2; omega
          · exact sidV_lt hy n hn
        · cases h
/-- the bytes of groups. -/
def gby : List Nat → List UInt8
  | [] => []
  | n :: r => UInt8.ofNat (n / 256) :: UInt8.ofNat (n % 256) :: gby r
theorem gby_len (l : List Nat) : (gby l).length = 2 * l.length := by
  induction l with
  | nil => rfl
  | cons n r ih => rw [gby]; simp [ih]; omega
/-- the address of groups. -/
def adG (l : List Nat) : Ad := if h : l.length = 8 then ⟨6, gby l, 0, by rw [gby_len, h], by decide, by decide⟩ else ad0
/-- a zone that is written. -/
def zoR (l : List UInt8) : Int ⊕ Int := if l ≠ [] ∧ l.all dgB = true then (if (val l : Int) ≤ 2147483647 then (if val l = 0 then .inl 4 else .inr (val l)) else .inl 4) else .inl 5
theorem zoR_bd {l : List UInt8} {n : Int} (h : zoR l = .inr n) : 0 < n ∧ n ≤ 2147483647 := by
  unfold zoR at h
  split at h
  · split at h
    · split at h
      · cases h
      · injection h with h; omega
    · cases h
  · cases h
/-- an address of Inet6 that is written. -/
def colP (s : List UInt8) : Int ⊕ Ad := match plV (hdB 37 s) with
  | none => .inl 5
  | some l => if hasB 37 s = true then (match h : zoR (tlB 37 s) with
      | .inl e => .inl e
      | .inr n => .inr ((adG l).setZ n (by have := zoR_bd h; omega))) else .inr (adG l)
end Go.Proofs.YtgebcifkbldfoaaGreatDoor

/- Addresses of Inet6: what is written is read, in plain words. No walk here. -/
namespace Go.Proofs.YtgebcifkbldfoaaGreatDoor
open Go.RowKit

theorem fig_all : ∀ d : Fin 16, (hex ((fig d.val).toNat : Int) == some (d.val : Int)) && (fig d.val != 58) && (fig d.val != 37) = true := by decide +kernel
theorem fig_hex {d : Nat} (h : d < 16) : hex ((fig d).toNat : Int) = some (d : Int) := by
  have := fig_all ⟨d, h⟩
  simp only [Bool.and_eq_true, beq_iff_eq] at this
  exact this.1.1
theorem fig_free {d : Nat} (h : d < 16) : fig d ≠ 58 ∧ fig d ≠ 37 := by
  have := fig_all ⟨d, h⟩
  simp only [Bool.and_eq_true] at this
  exact ⟨by simpa using this.1.2, by simpa using this.2⟩
theorem grA_app : ∀ (s t : List UInt8) (n : Nat), grA n (s ++ t) = (grA n s).bind (fun m => grA m t) := by
  intro s
  induction s with
  | nil => intro t n; rfl
  | cons c s ih =>
    intro t n
    rw [List.cons_append, grA, grA]
    cases hex (c.toNat : Int) with
    | none => rfl
    | some d => exact ih t _
theorem grA_hx : ∀ (k n : Nat), n < 16 ^ k → grA 0 (hxF k n) = some n := by
  intro k
  induction k with
  | zero => intro n h; have : n = 0 := by simpa using h
            subst this; rfl
  | succ k ih =>
    intro n h
    rw [hxF]
    split
    · next h0 => subst h0; rfl
    · rw [grA_app, ih (n / 16) (by rw [Nat.pow_succ] at h; omega)]
      show grA (n / 16) [fig (n % 16)] = some n
      rw [grA, fig_hex (Nat.mod_lt _ (by omega))]
      show grA (16 * (n / 16) + ((n % 16 : Nat) : Int).toNat) [] = some n
      rw [grA, Int.toNat_natCast]
      congr 1
      omega
theorem hxF_free (k : Nat) : ∀ n, ∀ c ∈ hxF k n, c ≠ 58 ∧ c ≠ 37 := by
  induction k with
  | zero => intro n c hc; simp [hxF] at hc
  | succ k ih =>
    intro n c hc
    rw [hxF] at hc
    split at hc
    · cases hc
    · rcases List.mem_append.1 hc with hc | hc
      · exact ih _ c hc
      · rw [List.mem_singleton.1 hc]; exact fig_free (Nat.mod_lt _ (by omega))
theorem hexT_free (n : Nat) : ∀ c ∈ hexT n, c ≠ 58 ∧ c ≠ 37 := by
  intro c hc
  unfold hexT at hc
  split at hc
  · rw [List.mem_singleton.1 hc]; decide
  · exact hxF_free 4 n c hc
theorem hexT_ne (n : Nat) : hexT n ≠ [] := by
  unfold hexT
  split
  · simp
  · next h => rw [hxF, if_neg h]; simp
theorem grV_hexT {n : Nat} (h : n < 65536) : grV (hexT n) = some n := by
  unfold grV
  have hl := hexT_len n
  rw [if_neg (by rintro (h1 | h1); exact hexT_ne n h1; omega)]
  unfold hexT
  split
  · next h0 => subst h0; decide +kernel
  · exact grA_hx 4 n h
theorem sidF_hexT {last : Bool} : ∀ (L : List Nat), (∀ n ∈ L, n < 65536) → sidF last (L.map hexT) = some L
  | [], _ => rfl
  | n :: L, h => by rw [List.map_cons, sidF, grV_hexT (h n (by simp)), sidF_hexT L (fun m hm => h m (List.mem_cons_of_mem _ hm))]; rfl
/-- groups with colons between. -/
def jn (L : List Nat) : List UInt8 := jB 58 (L.map hexT)
theorem jn_nil : jn [] = [] := rfl
theorem jn_one (n : Nat) : jn [n] = hexT n := rfl
theorem jn_cons (n m : Nat) (L : List Nat) : jn (n :: m :: L) = hexT n ++ 58 :: jn (m :: L) := rfl
theorem jn_ne {L : List Nat} (h : L ≠ []) : jn L ≠ [] := by
  match L, h with
  | [n], _ => exact hexT_ne n
  | n :: m :: L, _ => rw [jn_cons]; simp
theorem jn_snoc : ∀ (L : List Nat) (n : Nat), L ≠ [] → jn (L ++ [n]) = jn L ++ 58 :: hexT n
  | [a], n, _ => rfl
  | a :: b :: L, n, _ => by
    have := jn_snoc (b :: L) n (by simp)
    rw [List.cons_append, List.cons_append, jn_cons, ← List.cons_append, this, jn_cons]
    simp
theorem sidV_jn {last : Bool} {L : List Nat} (h : ∀ n ∈ L, n < 65536) : sidV last (jn L) = some L := by
  unfold sidV
  by_cases hL : L = []
  · subst hL; rw [if_pos jn_nil]
  · rw [if_neg (jn_ne hL)]
    unfold jn
    rw [spB_join _ (fun a ha c hc => by obtain ⟨n, _, rfl⟩ := List.mem_map.1 ha; exact (hexT_free n c hc).1) (by simpa using hL)]
    exact sidF_hexT L h
/-- no colon ahead. -/
theorem ddx_free : ∀ (w r : List UInt8), (∀ c ∈ w, c ≠ 58) → ddx (w ++ r) = (ddx r).map (· + w.length)
  | [], r, _ => by simp
  | a :: w, r, h => by
    have ih := ddx_free w r (fun c hc => h c (List.mem_cons_of_mem _ hc))
    have ha := h a (by simp)
    have hstep : ∀ t : List UInt8, ddx (a :: t) = (ddx t).map (· + 1) := by
      intro t
      match t with
      | [] => rfl
      | b :: t => rw [ddx, if_neg (fun hh => ha hh.1)]
    rw [List.cons_append, hstep, ih, Option.map_map]
    rfl
theorem ddx_col {b : UInt8} {t : List UInt8} (h : b ≠ 58) : ddx (58 :: b :: t) = (ddx (b :: t)).map (· + 1) := by rw [ddx, if_neg (fun hh => h hh.2)]
theorem hexT_head (n : Nat) : ∃ b t, hexT n = b :: t ∧ b ≠ 58 := by
  match h : hexT n, hexT_ne n with
  | b :: t, _ => exact ⟨b, t, rfl, (hexT_free n b (by rw [h]; simp)).1⟩
theorem jn_head {L : List Nat} (h : L ≠ []) (r : List UInt8) : ∃ b t, jn L ++ r = b :: t ∧ b ≠ 58 := by
  match L, h with
  | [n], _ =>
    obtain ⟨b, t, h1, h2⟩ := hexT_head n
    exact ⟨b, t ++ r, by rw [jn_one, h1]; rfl, h2⟩
  | n :: m :: L, _ =>
    obtain ⟨b, t, h1, h2⟩ := hexT_head n
    exact ⟨b, t ++ 58 :: jn (m :: L) ++ r, by rw [jn_cons, h1]; simp, h2⟩
theorem ddx_jn : ∀ (L : List Nat) (r : List UInt8), (r = [] ∨ ∃ t, r = 58 :: 58 :: t) → ddx (jn L ++ r) = (ddx r).map (· + (jn L).length)
  | [], r, _ => by simp [jn_nil]
  | [n], r, _ => ddx_free (hexT n) r (fun c hc => (hexT_free n c hc).1)
  | n :: m :: L, r, hr => by
    rw [jn_cons, List.append_assoc, List.cons_append, ddx_free _ _ (fun c hc => (hexT_free n c hc).1)]
    obtain ⟨b, t, h1, h2⟩ := jn_head (L := m :: L) (by simp) r
    have ih := ddx_jn (m :: L) r hr
    rw [h1] at ih ⊢
    rw [ddx_col h2, ih, Option.map_map, Option.map_map]
    congr 1
    funext x
    simp only [Function.comp, List.length_append, List.length_cons]
    omega
theorem ddx_dd (t : List UInt8) : ddx (58 :: 58 :: t) = some 0 := rfl
/-- groups from s on. -/
def gB (a : Ad) (s m : Nat) : List Nat := (List.range m).map (fun j => grp a (s + j))
theorem gB_len (a : Ad) (s m : Nat) : (gB a s m).length = m := by simp [gB]
theorem gB_lt (a : Ad) (s m : Nat) : ∀ n ∈ gB a s m, n < 65536 := by
  intro n hn
  obtain ⟨j, _, rfl⟩ := List.mem_map.1 hn
  exact grp_lt a _
theorem gB_succ (a : Ad) (s m : Nat) : gB a s (m + 1) = gB a s m ++ [grp a (s + m)] := by unfold gB; rw [List.range_succ, List.map_append]; rfl
theorem gB_app (a : Ad) (s m k : Nat) : gB a s (m + k) = gB a s m ++ gB a (s + m) k := by
  induction k with
  | zero => simp [gB]
  | succ k ih => rw [← Nat.add_assoc, gB_succ, ih, gB_succ, List.append_assoc, Nat.add_assoc]
theorem gB_ne {a : Ad} {s m : Nat} (h : 0 < m) : gB a s m ≠ [] := by
  intro hh
  have := congrArg List.length hh
  rw [gB_len] at this
  simp at this
  omega
theorem gB_emp {a : Ad} {f n : Nat} (h : emp a f n = true) : gB a f n = List.replicate n 0 := by
  refine List.eq_replicate_iff.2 ⟨gB_len a f n, fun x hx => ?_⟩
  obtain ⟨j, hj, rfl⟩ := List.mem_map.1 hx
  have := List.all_eq_true.1 h j hj
  simpa using this
theorem txG_head (a : Ad) {f n : Nat} : ∀ i, i ≤ f → txG a f n i = jn (gB a 0 i)
  | 0, _ => rfl
  | i + 1, h => by
    have ih := txG_head a (f := f) (n := n) i (by omega)
    rw [txG, if_neg (by omega), ih, gB_succ, Nat.zero_add]
    by_cases hi : 0 < i
    · rw [if_pos ⟨hi, by omega⟩, jn_snoc _ _ (gB_ne hi), List.append_assoc]; rfl
    · obtain rfl : i = 0 := by omega
      rw [if_neg (by omega)]
      rfl
theorem txG_mid (a : Ad) {f n : Nat} : ∀ t, t < n → txG a f n (f + (t + 1)) = jn (gB a 0 f) ++ [58, 58]
  | 0, h => by
    rw [← Nat.add_assoc, Nat.add_zero, txG, if_pos ⟨Nat.le_refl _, by omega⟩, if_pos rfl, txG_head a f (Nat.le_refl _)]
  | t + 1, h => by
    rw [← Nat.add_assoc, txG, if_pos ⟨by omega, by omega⟩, if_neg (by omega)]
    exact txG_mid a t (by omega)
theorem txG_tail (a : Ad) {f n : Nat} (hn : 0 < n) : ∀ m, txG a f n (f + n + m) = jn (gB a 0 f) ++ 58 :: 58 :: jn (gB a (f + n) m)
  | 0 => by
    obtain ⟨t, rfl⟩ : ∃ t, n = t + 1 := ⟨n - 1, by omega⟩
    show txG a f (t + 1) (f + (t + 1)) = _
    rw [txG_mid a t (by omega)]
    rfl
  | m + 1 => by
    rw [← Nat.add_assoc, txG, if_neg (by omega), txG_tail a hn m, gB_succ]
    by_cases hm : 0 < m
    · rw [if_pos ⟨by omega, by omega⟩, jn_snoc _ _ (gB_ne hm)]
      simp
    · obtain rfl : m = 0 := by omega
      rw [if_neg (by omega)]
      simp [gB, jn, jB]
theorem findF_emp {a : Ad} {n k f f' : Nat} (h : findF a n k f = some f') : emp a f' n = true := (findF_bd h).2.2
theorem rowN_emp (a : Ad) : ∀ n, emp a (rowN a n).1 (rowN a n).2 = true := by
  intro n
  induction n with
  | zero => rfl
  | succ n ih =>
    rcases n with _ | n
    · rfl
    · rw [rowN]
      cases hf : findF a (n + 2) (9 - (n + 2)) 0 with
      | some f => exact findF_emp hf
      | none => exact ih
theorem plV_txG (a : Ad) : plV (txG a (rowR a).1 (rowR a).2 8) = some (gB a 0 8) := by
  have hb := rowR_bd a
  have he := rowN_emp a 8
  change emp a (rowR a).1 (rowR a).2 = true at he
  obtain ⟨f, hf⟩ : ∃ f, (rowR a).1 = f := ⟨_, rfl⟩
  obtain ⟨n, hn⟩ : ∃ n, (rowR a).2 = n := ⟨_, rfl⟩
  rw [hf, hn] at hb he ⊢
  by_cases h0 : n = 0
  · subst h0
    have h8 : f = 8 := by omega
    subst h8
    rw [txG_head a 8 (Nat.le_refl _)]
    have hd : ddx (jn (gB a 0 8)) = none := by
      have := ddx_jn (gB a 0 8) [] (Or.inl rfl)
      rw [List.append_nil] at this
      rw [this]; rfl
    unfold plV
    rw [hd]
    simp only
    rw [sidV_jn (gB_lt a 0 8)]
    simp only
    rw [if_pos (gB_len a 0 8)]
  · obtain ⟨m, hm⟩ : ∃ m, 8 = f + n + m := ⟨8 - f - n, by omega⟩
    have hn2 : 2 ≤ n := by omega
    rw [hm, txG_tail a (by omega) m]
    have hd := ddx_jn (gB a 0 f) (58 :: 58 :: jn (gB a (f + n) m)) (Or.inr ⟨_, rfl⟩)
    rw [ddx_dd] at hd
    unfold plV
    rw [hd]
    simp only [Option.map_some, Nat.zero_add]
    rw [List.take_left, sidV_jn (gB_lt a 0 f)]
    simp only
    have hdr : (jn (gB a 0 f) ++ 58 :: 58 :: jn (gB a (f + n) m)).drop ((jn (gB a 0 f)).length + 2) = jn (gB a (f + n) m) := by
      rw [List.drop_append]; simp
    rw [hdr, sidV_jn (gB_lt a _ m)]
    simp only
    rw [gB_len, gB_len, if_pos (by omega), show 8 - f - m = n by omega, gB_app a 0 (f + n), gB_app a 0 f, Nat.zero_add, Nat.zero_add, gB_emp he]
theorem grp_hi (a : Ad) (i : Nat) : UInt8.ofNat (grp a i / 256) = a.b (2 * i) := by
  have h1 := (a.b (2 * i + 1)).toNat_lt
  have h : grp a i / 256 = (a.b (2 * i)).toNat := by unfold grp; omega
  rw [h]
  exact UInt8.ofNat_toNat
theorem grp_lo (a : Ad) (i : Nat) : UInt8.ofNat (grp a i % 256) = a.b (2 * i + 1) := by
  have h1 := (a.b (2 * i + 1)).toNat_lt
  have h : grp a i % 256 = (a.b (2 * i + 1)).toNat := by unfold grp; omega
  rw [h]
  exact UInt8.ofNat_toNat
theorem gB_8 (a : Ad) : gB a 0 8 = [grp a 0, grp a 1, grp a 2, grp a 3, grp a 4, grp a 5, grp a 6, grp a 7] := by simp [gB, List.range_succ]
theorem ip_b (a : Ad) : a.ip = [a.b 0, a.b 1, a.b 2, a.b 3, a.b 4, a.b 5, a.b 6, a.b 7, a.b 8, a.b 9, a.b 10, a.b 11, a.b 12, a.b 13, a.b 14, a.b 15] := by
  obtain ⟨c0, c1, c2, c3, c4, c5, c6, c7, c8, c9, c10, c11, c12, c13, c14, c15, h⟩ := len16 a.len
  simp [Ad.b, h]
theorem gby_gB (a : Ad) : gby (gB a 0 8) = a.ip := by
  rw [gB_8]
  simp only [gby, grp_hi, grp_lo]
  exact (ip_b a).symm
theorem ffff_free : ∀ c ∈ [102, 102, 102, 102], c ≠ (58 : UInt8) := by decide
/-- an address of Inet behind ffff. -/
theorem plV_map {a : Ad} {q : List UInt8} {x : Ad} (hm : mapB a = true) (hq : ∀ c ∈ q, c ≠ 58) (h4 : 4 < q.length) (hx : qpA q = some x) (h0 : grp x 0 = grp a 6) (h1 : grp x 1 = grp a 7) : plV (ffff ++ q) = some (gB a 0 8) := by
  unfold mapB at hm
  rw [Bool.and_eq_true, decide_eq_true_eq] at hm
  have hz := gB_emp hm.1
  have hs : sidV true ([102, 102, 102, 102, 58] ++ q) = some [65535, grp a 6, grp a 7] := by
    unfold sidV
    rw [if_neg (by simp)]
    have e : [102, 102, 102, 102, 58] ++ q = jB 58 [[102, 102, 102, 102], q] := rfl
    rw [e, spB_join _ (fun a ha c hc => by rcases List.mem_cons.1 ha with rfl | ha; exact ffff_free c hc; rw [List.mem_singleton.1 ha] at hc; exact hq c hc) (by simp)]
    have g1 : grV [102, 102, 102, 102] = some 65535 := by decide +kernel
    have g2 : grV q = none := by unfold grV; rw [if_pos (Or.inr h4)]
    rw [sidF, g1, sidF, g2, hx]
    simp only [and_self, if_true, h0, h1]
    rfl
  have hd : ddx (ffff ++ q) = some 0 := rfl
  unfold plV
  rw [hd]
  simp only
  have e2 : (ffff ++ q).drop (0 + 2) = [102, 102, 102, 102, 58] ++ q := rfl
  rw [e2, hs]
  have e1 : sidV false ((ffff ++ q).take 0) = some [] := rfl
  rw [e1]
  simp only
  rw [if_pos (by simp), gB_8]
  have z : ∀ j, j < 5 → grp a j = 0 := fun j hj => by
    have := List.all_eq_true.1 hm.1 j (by simpa using hj)
    simpa using this
  rw [z 0 (by omega), z 1 (by omega), z 2 (by omega), z 3 (by omega), z 4 (by omega), hm.2]
  rfl
end Go.Proofs.YtgebcifkbldfoaaGreatDoor

/- Addresses of Inet6: what is written is read, with its zone, in plain words. No walk here. -/
namespace Go.Proofs.YtgebcifkbldfoaaGreatDoor
open Go.RowKit

theorem dg_free {x : UInt8} (h : dgB x = true) : x ≠ 58 ∧ x ≠ 37 := by
  constructor <;> (intro e; subst e; revert h; decide)
theorem qtx_free (a : Ad) : ∀ x ∈ qtx a, x ≠ 58 ∧ x ≠ 37 := by
  intro x hx
  rcases jB_mem hx with rfl | ⟨L, hL, hx⟩
  · decide
  · have hd : ∀ c : UInt8, x ∈ itu c → x ≠ 58 ∧ x ≠ 37 := fun c hc => dg_free (List.all_eq_true.1 (itu_dg c) x hc)
    simp only [List.mem_cons, List.not_mem_nil, or_false] at hL
    rcases hL with rfl | rfl | rfl | rfl <;> exact hd _ hx
theorem itu_pos (c : UInt8) : 0 < (itu c).length := List.length_pos_iff.2 (itu_ne c)
theorem qtx_len7 (a : Ad) : 7 ≤ (qtx a).length := by
  have h0 := itu_pos (a.b 0)
  have h1 := itu_pos (a.b 1)
  have h2 := itu_pos (a.b 2)
  have h3 := itu_pos (a.b 3)
  unfold qtx
  simp only [jB, List.length_append, List.length_cons]
  omega
theorem plV_bareT (a : Ad) : plV (bareT a) = some (gB a 0 8) := by
  unfold bareT
  split
  · next hm => exact plV_map hm (fun c hc => (qtx_free _ c hc).1) (by have := qtx_len7 (ad12 a); omega) (qpA_qtx _ _ _ _) rfl rfl
  · exact plV_txG a
theorem txG_no37 (a : Ad) (f n : Nat) : ∀ i, ∀ c ∈ txG a f n i, c ≠ 37
  | 0, c, hc => by cases hc
  | i + 1, c, hc => by
    have ih := txG_no37 a f n i
    have h58 : c = 58 → c ≠ 37 := fun e => by rw [e]; decide
    rw [txG] at hc
    split at hc
    · split at hc
      · rcases List.mem_append.1 hc with hc | hc
        · exact ih c hc
        · simp only [List.mem_cons, List.not_mem_nil, or_false, or_self] at hc
          exact h58 hc
      · exact ih c hc
    · rcases List.mem_append.1 hc with hc | hc
      · split at hc
        · rcases List.mem_append.1 hc with hc | hc
          · exact ih c hc
          · exact h58 (List.mem_singleton.1 hc)
        · exact ih c hc
      · exact (hexT_free _ c hc).2
theorem bareT_no37 (a : Ad) : ∀ c ∈ bareT a, c ≠ 37 := by
  intro c hc
  unfold bareT at hc
  split at hc
  · rcases List.mem_append.1 hc with hc | hc
    · have : ∀ c ∈ ffff, c ≠ (37 : UInt8) := by decide
      exact this c hc
    · exact (qtx_free _ c hc).2
  · exact txG_no37 a _ _ 8 c hc
/-- an address of Inet6 without its zone. -/
def bareA (a : Ad) : Ad := ⟨6, a.ip, 0, a.len, by decide, by decide⟩
theorem adG_gB (a : Ad) : adG (gB a 0 8) = bareA a := by
  unfold adG
  rw [dif_pos (gB_len a 0 8)]
  exact Ad.same rfl (gby_gB a) rfl
theorem zoR_itoa {z : Int} (h : 0 < z) : zoR (Lib.itoa z) = if z ≤ 2147483647 then .inr z else .inl 4 := by
  have hv := (dec_val z.toNat).1
  have hd := (dec_val z.toNat).2
  rw [itoa_pos (by omega)]
  have hne : Lib.decDigits z.toNat ≠ [] := by
    intro h0
    have h2 := congrArg List.length h0
    rw [Lib.decDigits] at h2
    split at h2 <;> simp at h2
  unfold zoR
  rw [if_pos ⟨hne, hd⟩, hv]
  have e : ((z.toNat : Nat) : Int) = z := Int.toNat_of_nonneg (by omega)
  rw [e]
  by_cases hz : z ≤ 2147483647
  · rw [if_pos hz, if_pos hz, if_neg (by omega)]
  · rw [if_neg hz, if_neg hz]
theorem colP_in {s : List UInt8} {l : List Nat} {n : Int} (h1 : plV (hdB 37 s) = some l) (h2 : hasB 37 s = true) (h3 : zoR (tlB 37 s) = .inr n) : ∃ hb, colP s = .inr ((adG l).setZ n hb) := by
  unfold colP
  rw [h1]
  simp only
  rw [if_pos h2]
  split
  · next e he => rw [h3] at he; cases he
  · next m hm =>
    have hmn := h3.symm.trans hm
    injection hmn with hmn
    subst hmn
    exact ⟨(by have := zoR_bd h3; omega), rfl⟩
theorem colP_bare {s : List UInt8} {l : List Nat} (h1 : plV (hdB 37 s) = some l) (h2 : hasB 37 s = false) : colP s = .inr (adG l) := by
  unfold colP
  rw [h1]
  simp only
  rw [if_neg (by rw [h2]; decide)]
/-- what is written is read: without a zone. -/
theorem colP_colT0 {a : Ad} (h : ¬ 0 < a.zone) : colP (colT a) = .inr (bareA a) := by
  unfold colT
  rw [if_neg h, ← adG_gB]
  exact colP_bare (by rw [hdB_one (bareT_no37 a)]; exact plV_bareT a) (hasB_one (bareT_no37 a))
/-- what is written is read: with a zone. -/
theorem colP_colTz {a : Ad} (h : 0 < a.zone) (h2 : a.zone ≤ 2147483647) : ∃ hb, colP (colT a) = .inr ((bareA a).setZ a.zone hb) := by
  unfold colT
  rw [if_pos h, ← adG_gB]
  exact colP_in (by rw [hdB_app (bareT_no37 a)]; exact plV_bareT a) (hasB_app (bareT_no37 a)) (by rw [tlB_app (bareT_no37 a), zoR_itoa h, if_pos h2])
end Go.Proofs.YtgebcifkbldfoaaGreatDoor

/- The address of eight groups, byte by byte, in plain words. No walk here. -/
namespace Go.Proofs.YtgebcifkbldfoaaGreatDoor
open Go.RowKit

def ad6 : Ad := ⟨6, List.replicate 16 0, 0, rfl, by decide, by decide⟩
/-- the address behind k groups. -/
def adP (l : List Nat) : Nat → Ad
  | 0 => ad6
  | k + 1 => ((adP l k).setB (2 * k) (UInt8.ofNat (l.getD k 0 / 256))).setB (2 * k + 1) (UInt8.ofNat (l.getD k 0 % 256))
theorem list8 {l : List Nat} (h : l.length = 8) : ∃ a b c d e f g i, l = [a, b, c, d, e, f, g, i] := by
  match l, h with
  | [a, b, c, d, e, f, g, i], _ => exact ⟨_, _, _, _, _, _, _, _, rfl⟩
theorem adP_8 {l : List Nat} (h : l.length = 8) : adP l 8 = adG l := by
  unfold adG
  rw [dif_pos h]
  obtain ⟨a, b, c, d, e, f, g, i, rfl⟩ := list8 h
  refine Ad.same rfl ?_ rfl
  simp [adP, Ad.setB, ad6, gby, List.replicate, List.set]
theorem adP_next {l : List Nat} {k : Nat} (h : k < l.length) : adP l (k + 1) = ((adP l k).setB (2 * k) (UInt8.ofNat (l[k] / 256))).setB (2 * k + 1) (UInt8.ofNat (l[k] % 256)) := by
  rw [adP, List.getD_eq_getElem?_getD, List.getElem?_eq_getElem h]
  rfl
end Go.Proofs.YtgebcifkbldfoaaGreatDoor

/- The longest row of groups 0: as it is counted, and as the reference finds it, in plain words. No walk here. -/
namespace Go.Proofs.YtgebcifkbldfoaaGreatDoor
open Go.RowKit

/-- how many groups from i on are 0, at most f. -/
def runF (z : Nat → Bool) : Nat → Nat → Nat
  | 0, _ => 0
  | f + 1, i => if z i = true then 1 + runF z f (i + 1) else 0
def runZ (z : Nat → Bool) (i : Nat) : Nat := runF z (8 - i) i
/-- the longest row among those that begin below i. -/
def rowK (z : Nat → Bool) : Nat → Nat × Nat
  | 0 => (0, 0)
  | i + 1 => if (rowK z i).2 < runZ z i then (i, runZ z i) else rowK z i
def empZ (z : Nat → Bool) (f n : Nat) : Bool := (List.range n).all (fun j => z (f + j))
def findZ (z : Nat → Bool) (n : Nat) : Nat → Nat → Option Nat
  | 0, _ => none
  | k + 1, f => if empZ z f n then some f else findZ z n k (f + 1)
def rowZ (z : Nat → Bool) : Nat → Nat × Nat
  | 0 => (8, 0)
  | 1 => (8, 0)
  | n + 2 => match findZ z (n + 2) (9 - (n + 2)) 0 with
    | some f => (f, n + 2)
    | none => rowZ z (n + 1)
def zOf (b0 b1 b2 b3 b4 b5 b6 b7 : Bool) (i : Nat) : Bool := [b0, b1, b2, b3, b4, b5, b6, b7].getD i false
theorem row_all : ∀ b0 b1 b2 b3 b4 b5 b6 b7 : Bool, (if 2 ≤ (rowK (zOf b0 b1 b2 b3 b4 b5 b6 b7) 8).2 then rowZ (zOf b0 b1 b2 b3 b4 b5 b6 b7) 8 = rowK (zOf b0 b1 b2 b3 b4 b5 b6 b7) 8 else rowZ (zOf b0 b1 b2 b3 b4 b5 b6 b7) 8 = (8, 0)) ∧
    (b5 = false → (empZ (zOf b0 b1 b2 b3 b4 b5 b6 b7) 0 5 = true ↔ rowK (zOf b0 b1 b2 b3 b4 b5 b6 b7) 8 = (0, 5))) ∧ (rowK (zOf b0 b1 b2 b3 b4 b5 b6 b7) 8).1 + (rowK (zOf b0 b1 b2 b3 b4 b5 b6 b7) 8).2 ≤ 8 := by decide +kernel
def zA (a : Ad) (i : Nat) : Bool := zOf (decide (grp a 0 = 0)) (decide (grp a 1 = 0)) (decide (grp a 2 = 0)) (decide (grp a 3 = 0)) (decide (grp a 4 = 0)) (decide (grp a 5 = 0)) (decide (grp a 6 = 0)) (decide (grp a 7 = 0)) i
theorem zA_at (a : Ad) {i : Nat} (h : i < 8) : zA a i = decide (grp a i = 0) := by
  match i, h with
  | 0, _ | 1, _ | 2, _ | 3, _ | 4, _ | 5, _ | 6, _ | 7, _ => rfl
theorem emp_Z (a : Ad) {f n : Nat} (h : f + n ≤ 8) : emp a f n = empZ (zA a) f n := by
  unfold emp empZ
  rw [Bool.eq_iff_iff, List.all_eq_true, List.all_eq_true]
  constructor
  · intro hh j hj
    have := hh j hj
    rw [List.mem_range] at hj
    rw [zA_at a (by omega)]
    exact this
  · intro hh j hj
    have := hh j hj
    rw [List.mem_range] at hj
    rw [zA_at a (by omega)] at this
    exact this
theorem find_Z (a : Ad) (n : Nat) : ∀ (k f : Nat), f + k + n ≤ 9 → findF a n k f = findZ (zA a) n k f
  | 0, _, _ => rfl
  | k + 1, f, h => by
    rw [findF, findZ, emp_Z a (by omega), find_Z a n k (f + 1) (by omega)]
theorem row_Z (a : Ad) : ∀ n, n ≤ 8 → rowN a n = rowZ (zA a) n
  | 0, _ => rfl
  | 1, _ => rfl
  | n + 2, h => by
    (rw [rowN, rowZ, find_Z a (n + 2) _ _ (by omega), row_Z a (n + 1) (by omega)]) <;> rfl
/-- what is counted tells the row. -/
theorem rowR_K (a : Ad) : if 2 ≤ (rowK (zA a) 8).2 then rowR a = rowK (zA a) 8 else rowR a = (8, 0) := by
  unfold rowR
  rw [row_Z a 8 (Nat.le_refl _)]
  exact (row_all _ _ _ _ _ _ _ _).1
theorem rowK_bd (a : Ad) : (rowK (zA a) 8).1 + (rowK (zA a) 8).2 ≤ 8 := (row_all _ _ _ _ _ _ _ _).2.2
theorem mapB_K (a : Ad) : mapB a = (decide (grp a 5 = 65535) && decide (rowK (zA a) 8 = (0, 5))) := by
  unfold mapB
  by_cases h : grp a 5 = 65535
  · have h5 : decide (grp a 5 = 0) = false := by rw [h]; rfl
    have := (row_all (decide (grp a 0 = 0)) (decide (grp a 1 = 0)) (decide (grp a 2 = 0)) (decide (grp a 3 = 0)) (decide (grp a 4 = 0)) (decide (grp a 5 = 0)) (decide (grp a 6 = 0)) (decide (grp a 7 = 0))).2.1 h5
    rw [emp_Z a (by omega), decide_eq_true h, Bool.and_true, Bool.true_and, Bool.eq_iff_iff, decide_eq_true_iff]
    exact this
  · rw [decide_eq_false h, Bool.and_false, Bool.false_and]
/-- the text as it is put together: one address of Inet; no row of noughts; a row of noughts. -/
theorem bareT_map {a : Ad} (h5 : grp a 5 = 65535) (hr : rowK (zA a) 8 = (0, 5)) : bareT a = ffff ++ qtx (ad12 a) := by
  unfold bareT
  rw [if_pos (by rw [mapB_K, decide_eq_true h5, decide_eq_true hr]; rfl)]
theorem mapB_not {a : Ad} (h : ¬ (grp a 5 = 65535 ∧ rowK (zA a) 8 = (0, 5))) : mapB a = false := by
  rw [mapB_K]
  rw [Bool.eq_false_iff]
  intro hh
  rw [Bool.and_eq_true, decide_eq_true_iff, decide_eq_true_iff] at hh
  exact h hh
theorem bareT_flat {a : Ad} (h : ¬ (grp a 5 = 65535 ∧ rowK (zA a) 8 = (0, 5))) (hn : (rowK (zA a) 8).2 < 2) : bareT a = jn (gB a 0 8) := by
  have hr := rowR_K a
  rw [if_neg (by omega)] at hr
  unfold bareT
  rw [mapB_not h, if_neg (by decide), hr]
  exact txG_head a 8 (Nat.le_refl _)
theorem bareT_row {a : Ad} {f n m : Nat} (h : ¬ (grp a 5 = 65535 ∧ rowK (zA a) 8 = (0, 5))) (hk : rowK (zA a) 8 = (f, n)) (hn : 2 ≤ n) (hm : 8 = f + n + m) : bareT a = jn (gB a 0 f) ++ 58 :: 58 :: jn (gB a (f + n) m) := by
  have hr := rowR_K a
  rw [hk, if_pos hn] at hr
  unfold bareT
  rw [mapB_not h, if_neg (by decide), hr, hm]
  exact txG_tail a (by omega) m
end Go.Proofs.YtgebcifkbldfoaaGreatDoor

/- The contracts of the reference's Group, empty, row, hex, Mapped, Text for addresses of Inet6. -/
namespace Go.Proofs.YtgebcifkbldfoaaGreatDoor
open Go.RowKit
attribute [local go_sem] ba_get ext_take ext_drop ext_any ba_app

set_option maxRecDepth 100000 in
set_option maxHeartbeats 1000000 in
theorem rgroup_any (a : Ad) (i : Nat) (w : World) (hi : i < 8) : Calls Tryz.prog 59 #[.agg (adA a), .int .i64 (i : Int)] w fun e w' => e = .returned (.int .i64 (grp a i : Int)) ∧ Below w.heap.size w w' := by
  go_enter Tryz.func59, Tryz.ntmps59
  go_wp2_with (first
    | ((with_reducible refine wpList_boxB rfl _ _ rfl rfl ?_); intro g w1 hg hB hb hs; clear hg hs))
  have c0 := hB.cell (2 * i + 1)
  have c1 := hB.cell (2 * i + 1 + 1)
  rw [adA_ip a (by omega)] at c0 c1
  rw [show 2 * i + 1 = 1 + 2 * i by omega] at c0
  rw [show 2 * i + 1 + 1 = 1 + (2 * i + 1) by omega] at c1
  have x0 := fun x : BelT w1 => x.cell c0
  have x1 := fun x : BelT w1 => x.cell c1
  have l0 := u8lt (a.b (2 * i))
  have l1 := u8lt (a.b (2 * i + 1))
  clear c0 c1
  have t0 : (2 * (i : Int)).toNat = 2 * i := by omega
  have t1 : (2 * (i : Int) + 1).toNat = 2 * i + 1 := by omega
  have j0 : (0 : Int) ≤ 2 * (i : Int) := by omega
  have j1 : 2 * (i : Int) < 16 := by omega
  have j2 : (0 : Int) ≤ 2 * (i : Int) + 1 := by omega
  have j3 : 2 * (i : Int) + 1 < 16 := by omega
  have hfin : (grp a i : Int) = 256 * ((a.b (2 * i)).toNat : Int) + ((a.b (2 * i + 1)).toNat : Int) := by unfold grp; omega
  have Hfin := Lib.hid hfin
  clear hfin
  refine wp_region_bel (by kernel_rfl) (by kernel_rfl) ?_
  repeat (first
    | go_big_quiet_skip
    | (go_big_quiet_want; (go_big_quiet_op; go_big_quiet_on)))
  refine wpQuiet_nil ?_
  rintro _ ⟨x, rfl⟩
  go_wp2
  go_ret
  exact ⟨reti Hfin.out.symm, bel_tr hb x.bel⟩

set_option maxRecDepth 100000 in
set_option maxHeartbeats 1000000 in
theorem rempty_any (a : Ad) (f n : Nat) (w : World) (hfn : f + n ≤ 8) : Calls Tryz.prog 74 #[.agg (adA a), .int .i64 (f : Int), .int .i64 (n : Int)] w fun e w' => e = .returned (.bool (emp a f n)) ∧ Below w.heap.size w w' := by
  go_enter Tryz.func74, Tryz.ntmps74
  go_wp2_with (first
    | ((with_reducible refine wpList_boxB rfl _ _ rfl rfl ?_); intro g w1 hg hB hb hs; have hgw : w.heap.size ≤ g := Nat.le_of_eq hg.symm; clear hg hs))
  go_loopw [7] (fun i wr => ∃ j : Nat, f ≤ j ∧ j ≤ f + n ∧ i = .int .i64 j ∧ emp a f (j - f) = true ∧ Bk wr g 31 (adA a) ∧ Below w.heap.size w wr) (fun i _ => f + n - (intOf i).toNat)
  case atStart => exact ⟨f, Nat.le_refl _, by omega, rfl, by rw [Nat.sub_self]; rfl, hB, hb⟩
  case round =>
    obtain ⟨j, hj1, hj2, rfl, he, r1, r2⟩ := hrel
    have He := Lib.hid he
    clear he hB hb
    by_cases hlt : j < f + n
    · have i1 : (j : Int) < (f : Int) + (n : Int) := by omega
      by_cases hg0 : grp a j = 0
      · have hnx : emp a f (j + 1 - f) = true := by rw [show j + 1 - f = (j - f) + 1 by omega]; exact emp_next He.out (by rw [show f + (j - f) = j by omega]; exact hg0)
        have Hnx := Lib.hid hnx
        have Hg0 := Lib.hid hg0
        clear hnx hg0
        go_wp2_with (first
          | (with_reducible refine wpList_loadAd rfl _ rfl rfl r1 ?_)
          | (go_at_call 59; refine (rgroup_any a j _ (by omega)).mono ?_; rintro e w2 ⟨rfl, hb2⟩; rw [Hg0.out]; have r12 := r1.bel hb2))
        go_roundw
        case rel => exact ⟨j + 1, by omega, by omega, by go_num, Hnx.out, r12, bel_tr r2 hb2⟩
        case measure => simp [intOf]; omega
      · have hbad : emp a f n = false := emp_bad (k := j - f) (by omega) (by rw [show f + (j - f) = j by omega]; exact hg0)
        have Hbad := Lib.hid hbad
        have i2 : ((grp a j : Int) != 0) = true := by simp; omega
        clear hbad hg0
        go_wp2_with (first
          | (with_reducible refine wpList_loadAd rfl _ rfl rfl r1 ?_)
          | (go_at_call 59; refine (rgroup_any a j _ (by omega)).mono ?_; rintro e w2 ⟨rfl, hb2⟩))
        go_ret
        exact ⟨retb Hbad.out.symm, bel_tr r2 hb2⟩
    · have i1 : ¬ (j : Int) < (f : Int) + (n : Int) := by omega
      have hfin : emp a f n = true := by have := He.out; rw [show j - f = n by omega] at this; exact this
      have Hfin := Lib.hid hfin
      clear hfin
      go_wp2
      go_ret
      exact ⟨retb Hfin.out.symm, r2⟩

def RowPost (w : World) (p : Nat × Nat) (e : Ending) (w' : World) : Prop := e = .returned (.tuple #[.int .i64 (p.1 : Int), .int .i64 (p.2 : Int)]) ∧ Below w.heap.size w w'
theorem RowPost.mk {w w' : World} {p : Nat × Nat} {f n : Nat} (h : p = (f, n)) (hb : Below w.heap.size w w') : RowPost w p (.returned (.tuple #[.int .i64 (f : Int), .int .i64 (n : Int)])) w' := ⟨by rw [h], hb⟩
set_option maxRecDepth 100000 in
set_option maxHeartbeats 1000000 in
theorem rrow_any (a : Ad) (w : World) : Calls Tryz.prog 57 #[.agg (adA a)] w (RowPost w (rowR a)) := by
  go_enter Tryz.func57, Tryz.ntmps57
  go_wp2_with (first
    | ((with_reducible refine wpList_boxB rfl _ _ rfl rfl ?_); intro g w1 hg hB hb hs; clear hg hs))
  go_loopw [4] (fun i wr => ∃ n : Nat, n ≤ 8 ∧ 1 ≤ n ∧ i = .int .i64 n ∧ rowR a = rowN a n ∧ Bk wr g 31 (adA a) ∧ Below w.heap.size w wr) (fun i _ => (intOf i).toNat)
  case atStart => exact ⟨8, Nat.le_refl _, by omega, rfl, rfl, hB, hb⟩
  case round =>
    obtain ⟨n, hn, hn1, rfl, he, r1, r2⟩ := hrel
    have He := Lib.hid he
    clear he hB hb
    by_cases h2 : 2 ≤ n
    · have i1 : (2 : Int) ≤ (n : Int) := by omega
      have hI := rowN_I (a := a) h2
      have HI := Lib.hid hI
      clear hI
      go_wp2
      go_loopw [5] (fun i wz => ∃ f : Nat, f ≤ 9 - n ∧ i = .int .i64 f ∧ rowN a n = rowI a n f ∧ Bk wz g 31 (adA a) ∧ Below w.heap.size w wz) (fun i _ => 10 - (intOf i).toNat)
      case atStart => exact ⟨0, Nat.zero_le _, rfl, HI.out, r1, r2⟩
      case round =>
        obtain ⟨f, hf, rfl, hI2, s1, s2⟩ := hrel
        have HI2 := Lib.hid hI2
        clear hI2 r1 r2
        by_cases hfn : f + n ≤ 8
        · have i2 : (f : Int) + (n : Int) ≤ 8 := by omega
          cases hem : emp a f n with
          | true =>
            have hfin : rowR a = (f, n) := by rw [He.out, HI2.out, rowI_hit hfn hem]
            have Hfin := Lib.hid hfin
            have Hem := Lib.hid hem
            clear hfin hem
            go_wp2_with (first
              | (with_reducible refine wpList_loadAd rfl _ rfl rfl s1 ?_)
              | (go_at_call 74; refine (rempty_any a f n _ hfn).mono ?_; rintro e w2 ⟨rfl, hb2⟩; rw [Hem.out]))
            go_ret2
            exact RowPost.mk Hfin.out (bel_tr s2 hb2)
          | false =>
            have hnx : rowN a n = rowI a n (f + 1) := by rw [HI2.out, rowI_miss hfn hem]
            have Hnx := Lib.hid hnx
            have Hem := Lib.hid hem
            clear hnx hem
            go_wp2_with (first
              | (with_reducible refine wpList_loadAd rfl _ rfl rfl s1 ?_)
              | (go_at_call 74; refine (rempty_any a f n _ hfn).mono ?_; rintro e w2 ⟨rfl, hb2⟩; rw [Hem.out]; have s12 := s1.bel hb2))
            go_roundw
            case rel => exact ⟨f + 1, by omega, by go_num, Hnx.out, s12, bel_tr s2 hb2⟩
            case measure => simp [intOf]; omega
        · have i2 : ¬ (f : Int) + (n : Int) ≤ 8 := by omega
          have hnx : rowR a = rowN a (n - 1) := by rw [He.out, HI2.out, rowI_end hfn]
          have Hnx := Lib.hid hnx
          clear hnx
          go_wp2
          go_roundw
          case rel => exact ⟨n - 1, by omega, by omega, by congr 1; omega, Hnx.out, s1, s2⟩
          case measure => simp [intOf]; omega
    · have i1 : ¬ (2 : Int) ≤ (n : Int) := by omega
      have hfin : rowR a = (8, 0) := by rw [He.out, rowN_small (by omega)]
      have Hfin := Lib.hid hfin
      clear hfin
      go_wp2
      go_ret2
      exact RowPost.mk (f := 8) (n := 0) Hfin.out r2

def figL : List UInt8 := [48, 49, 50, 51, 52, 53, 54, 55, 56, 57, 97, 98, 99, 100, 101, 102]
theorem figL_cut {d : Nat} (h : d < 16) : (figL.take (d + 1)).drop d = [fig d] := by
  have : ∀ d : Fin 16, (figL.take (d.val + 1)).drop d.val = [fig d.val] := by decide +kernel
  exact this ⟨d, h⟩
theorem fig_cut {m : Nat} (T : List UInt8) : Value.string ⟨(List.drop (m % 16) (48 :: List.take (m % 16) [49, 50, 51, 52, 53, 54, 55, 56, 57, 97, 98, 99, 100, 101, 102]) ++ T).toArray⟩ = .string ⟨(fig (m % 16) :: T).toArray⟩ := by
  have h : List.drop (m % 16) (48 :: List.take (m % 16) [49, 50, 51, 52, 53, 54, 55, 56, 57, 97, 98, 99, 100, 101, 102]) = [fig (m % 16)] := figL_cut (by omega)
  rw [h]
  rfl
theorem hxF_next {N k m : Nat} {T : List UInt8} (h : hxF 4 N = hxF (k + 1) m ++ T) (hm : 0 < m) : hxF 4 N = hxF k (m / 16) ++ (fig (m % 16) :: T) := by
  rw [h, hxF, if_neg (by omega)]
  simp
set_option maxRecDepth 100000 in
set_option maxHeartbeats 1000000 in
theorem rhex8_any (N : Nat) (w : World) (hN : N < 65536) : Calls Tryz.prog 58 #[.int .i64 (N : Int)] w fun e w' => e = .returned (.string ⟨(hexT N).toArray⟩) ∧ w = w' := by
  go_enter Tryz.func58, Tryz.ntmps58
  go_wp2
  go_loop [0, 3] (fun n s => ∃ (k m : Nat) (T : List UInt8), k ≤ 4 ∧ m < 16 ^ k ∧ n = .int .i64 m ∧ s = .string ⟨T.toArray⟩ ∧ T.length ≤ 4 - k ∧ hxF 4 N = hxF k m ++ T ∧ (T = [] → m = N)) (fun n _ => (intOf n).toNat)
  case atStart => exact ⟨4, N, [], Nat.le_refl _, hN, rfl, rfl, by simp, by simp, fun _ => rfl⟩
  case round =>
    obtain ⟨k, m, T, hk, hm, rfl, rfl, hT, hR, hT0⟩ := hrel
    have HR := Lib.hid hR
    have HT0 := Lib.hid hT0
    have hm16 : m < 65536 := Nat.lt_of_lt_of_le hm (by have := Nat.pow_le_pow_right (show 0 < 16 by omega) hk; omega)
    have Hm := Lib.hid hm
    clear hR hT0 hm
    rcases Nat.eq_zero_or_pos m with h0 | h0
    · subst h0
      by_cases hTe : T = []
      · subst hTe
        have hN0 : hexT N = [48] := by unfold hexT; rw [if_pos (HT0.out rfl).symm]
        have HN0 := Lib.hid hN0
        clear hN0
        go_wp2
        go_ret
        exact ⟨congrArg Ending.returned (vstr HN0.out.symm), rfl⟩
      · have hTi : T.isEmpty = false := by simpa using hTe
        have hN1 : N ≠ 0 := by
          intro e
          have := HR.out
          rw [e, hxF_zero, hxF_zero] at this
          exact hTe this.symm
        have hfin : hexT N = T := by unfold hexT; rw [if_neg hN1, HR.out, hxF_zero]; rfl
        have Hfin := Lib.hid hfin
        clear hfin hN1 hTe
        go_wp2
        go_ret
        exact ⟨congrArg Ending.returned (vstr Hfin.out.symm), rfl⟩
    · obtain ⟨k', rfl⟩ : ∃ k', k = k' + 1 := ⟨k - 1, by
        rcases k with _ | k
        · have := Hm.out; simp at this; omega
        · rfl⟩
      have hnx := hxF_next HR.out h0
      have Hnx := Lib.hid hnx
      have hm2 : m / 16 < 16 ^ k' := by have := Hm.out; rw [Nat.pow_succ] at this; omega
      have Hm2 := Lib.hid hm2
      clear hnx hm2
      have i1 : (0 : Int) < (m : Int) := by omega
      go_wp2
      go_round
      case rel => exact ⟨k', m / 16, _, by omega, Hm2.out, by go_num, fig_cut T, by simp; omega, Hnx.out, fun h => by cases h⟩
      case measure => simp [intOf]; omega
end Go.Proofs.YtgebcifkbldfoaaGreatDoor

/- The contract of the reference's Text for addresses of Inet6. -/
namespace Go.Proofs.YtgebcifkbldfoaaGreatDoor
open Go.RowKit
attribute [local go_sem] ba_get ext_take ext_drop ext_any ba_app

set_option maxRecDepth 100000 in
set_option maxHeartbeats 1000000 in
theorem rmapped_any (a : Ad) (w : World) : Calls Tryz.prog 60 #[.agg (adA a)] w fun e w' => e = .returned (.bool (mapB a)) ∧ Below w.heap.size w w' := by
  cases he : emp a 0 5 with
  | false =>
    have hfin : mapB a = false := by unfold mapB; rw [he]; rfl
    have Hfin := Lib.hid hfin
    have He := Lib.hid he
    clear hfin he
    go_enter Tryz.func60, Tryz.ntmps60
    go_wp2_with (first
      | ((with_reducible refine wpList_boxB rfl _ _ rfl rfl ?_); intro g w1 hg hB hb hs; clear hg hs)
      | (with_reducible refine wpList_loadAd rfl _ rfl rfl hB ?_)
      | (go_at_call 74; refine (rempty_any a 0 5 _ (by omega)).mono ?_; rintro e w2 ⟨rfl, hb2⟩; rw [He.out]))
    go_ret
    exact ⟨retb Hfin.out.symm, bel_tr hb hb2⟩
  | true =>
    have hfin : mapB a = decide (grp a 5 = 65535) := by unfold mapB; rw [he]; rfl
    have hd : decide (grp a 5 = 65535) = ((grp a 5 : Int) == 65535) := by rw [Bool.eq_iff_iff]; simp; omega
    have Hfin := Lib.hid (hfin.trans hd)
    have He := Lib.hid he
    clear hfin he hd
    go_enter Tryz.func60, Tryz.ntmps60
    go_wp2_with (first
      | ((with_reducible refine wpList_boxB rfl _ _ rfl rfl ?_); intro g w1 hg hB hb hs; clear hg hs)
      | (with_reducible refine wpList_loadAd (o := ⟨some 3, _, _, _, _, _⟩) rfl _ rfl rfl hB ?_)
      | (go_at_call 74; refine (rempty_any a 0 5 _ (by omega)).mono ?_; rintro e w2 ⟨rfl, hb2⟩; rw [He.out]; have hB2 := hB.bel hb2)
      | (refine wpList_loadAdG (o := ⟨some 6, _, _, _, _, _⟩) rfl _ rfl rfl hB2 ?_)
      | (go_at_call 59; refine (rgroup_any a 5 _ (by omega)).mono ?_; rintro e w3 ⟨rfl, hb3⟩))
    go_ret
    exact ⟨retb Hfin.out.symm, bel_tr (bel_tr hb hb2) hb3⟩

def CtRel (w : World) (a : Ad) (g : Nat) (sv iv : Value) (wr : World) : Prop :=
  ∃ i : Nat, i ≤ 8 ∧ iv = .int .i64 i ∧ sv = .string ⟨(txG a (rowR a).1 (rowR a).2 i).toArray⟩ ∧ Bk wr g 31 (adA a) ∧ Below w.heap.size w wr
theorem txG_in1 {a : Ad} {f n i : Nat} (h1 : f ≤ i) (h2 : i < f + n) (h3 : i = f) : txG a f n (i + 1) = txG a f n i ++ [58, 58] := by rw [txG, if_pos ⟨h1, h2⟩, if_pos h3]
theorem txG_in2 {a : Ad} {f n i : Nat} (h1 : f ≤ i) (h2 : i < f + n) (h3 : i ≠ f) : txG a f n (i + 1) = txG a f n i := by rw [txG, if_pos ⟨h1, h2⟩, if_neg h3]
theorem txG_out1 {a : Ad} {f n i : Nat} (h : ¬ (f ≤ i ∧ i < f + n)) (h3 : 0 < i ∧ i ≠ f + n) : txG a f n (i + 1) = txG a f n i ++ 58 :: hexT (grp a i) := by rw [txG, if_neg h, if_pos h3, List.append_assoc]; rfl
theorem txG_out2 {a : Ad} {f n i : Nat} (h : ¬ (f ≤ i ∧ i < f + n)) (h3 : ¬ (0 < i ∧ i ≠ f + n)) : txG a f n (i + 1) = txG a f n i ++ hexT (grp a i) := by rw [txG, if_neg h, if_neg h3]
theorem colT_mz {a : Ad} (h : mapB a = true) (hz : 0 < a.zone) : colT a = ffff ++ qtx (ad12 a) ++ 37 :: Lib.itoa a.zone := by unfold colT bareT; rw [if_pos hz, if_pos h]
theorem colT_m {a : Ad} (h : mapB a = true) (hz : ¬ 0 < a.zone) : colT a = ffff ++ qtx (ad12 a) := by unfold colT bareT; rw [if_neg hz, if_pos h]
theorem colT_z {a : Ad} (h : mapB a = false) (hz : 0 < a.zone) : colT a = txG a (rowR a).1 (rowR a).2 8 ++ 37 :: Lib.itoa a.zone := by unfold colT bareT; rw [if_pos hz, if_neg (by rw [h]; simp)]
theorem colT_n {a : Ad} (h : mapB a = false) (hz : ¬ 0 < a.zone) : colT a = txG a (rowR a).1 (rowR a).2 8 := by unfold colT bareT; rw [if_neg hz, if_neg (by rw [h]; simp)]
theorem ite_len {n : Int} (h0 : 0 < n) (h1 : n ≤ 9223372036854775807) : (Lib.itoa n).length ≤ 21 := Lib.itoa_length_le n (by omega) h1
theorem txG_len8 (a : Ad) (f n : Nat) : (txG a f n 8).length ≤ 48 := txG_len a f n 8

set_option maxRecDepth 100000 in
set_option maxHeartbeats 2000000 in
theorem rctext_any (a : Ad) (w : World) : Calls Tryz.prog 44 #[.agg (adA a)] w (StrPost w (colT a)) := by
  have hbd := rowR_bd a
  obtain ⟨p, hp⟩ : ∃ p, rowR a = p := ⟨_, rfl⟩
  obtain ⟨f, n⟩ := p
  rw [hp] at hbd
  simp only at hbd
  have Hp := Lib.hid hp
  clear hp
  have hzb := a.ok.2.2.2
  go_enter Tryz.func44, Tryz.ntmps44
  go_wp2_with (first
    | ((with_reducible refine wpList_boxB rfl _ _ rfl rfl ?_); intro g w1 hg hB hb hs; clear hg hs)
    | (with_reducible refine wpList_loadAd rfl _ rfl rfl hB ?_)
    | (go_at_call 57; refine (rrow_any a _).mono ?_; rintro e w2 ⟨rfl, hb2⟩; rw [Hp.out]; simp only; have hB2 := hB.bel hb2; have hb02 := bel_tr hb hb2))
  clear hB hb hb2
  go_loopw [3, 6] (fun sv iv wr => CtRel w a g sv iv wr) (fun _ i _ => 8 - (intOf i).toNat)
  case atStart => exact ⟨0, by omega, rfl, rfl, hB2, hb02⟩
  case round =>
    obtain ⟨i, hi, rfl, rfl, r1, r2⟩ := hrel
    rw [Hp.out]
    simp only
    clear hB2 hb02
    have hTl := txG_len a f n i
    by_cases hlt : i < 8
    · have i0 : (i : Int) < 8 := by omega
      have hgl := grp_lt a i
      have hhl := hexT_len (grp a i)
      by_cases hin : f ≤ i ∧ i < f + n
      · obtain ⟨hin1, hin2⟩ := hin
        have i1 : (f : Int) ≤ (i : Int) := by omega
        have i2 : (i : Int) < (f : Int) + (n : Int) := by omega
        by_cases hif : i = f
        · have i3 : ((i : Int) == (f : Int)) = true := by simp [hif]
          have Hnx := Lib.hid (txG_in1 (a := a) hin1 hin2 hif)
          clear hif
          generalize txG a f n i = T at *
          go_wp2
          go_roundw
          case rel => exact ⟨i + 1, by omega, by go_num, by rw [Hp.out, Hnx.out], r1, r2⟩
          case measure => simp [intOf]; omega
        · have i3 : ((i : Int) == (f : Int)) = false := by simp; omega
          have Hnx := Lib.hid (txG_in2 (a := a) hin1 hin2 hif)
          clear hif
          generalize txG a f n i = T at *
          go_wp2
          go_roundw
          case rel => exact ⟨i + 1, by omega, by go_num, by rw [Hp.out, Hnx.out], r1, r2⟩
          case measure => simp [intOf]; omega
      · have hHp : (hexT (grp a i)).length ≤ 4 := hhl
        have hc : ((¬ (f : Int) ≤ (i : Int)) ∧ (f : Int) ≤ 8) ∨ ((f : Int) ≤ (i : Int) ∧ ¬ (i : Int) < (f : Int) + (n : Int)) := by omega
        have hs : (¬ (0 : Int) < (i : Int) ∧ txG a f n (i + 1) = txG a f n i ++ hexT (grp a i)) ∨ ((0 : Int) < (i : Int) ∧ ((i : Int) != (f : Int) + (n : Int)) = false ∧ txG a f n (i + 1) = txG a f n i ++ hexT (grp a i)) ∨ ((0 : Int) < (i : Int) ∧ ((i : Int) != (f : Int) + (n : Int)) = true ∧ txG a f n (i + 1) = txG a f n i ++ 58 :: hexT (grp a i)) := by
          rcases Nat.eq_zero_or_pos i with h0 | h0
          · exact .inl ⟨by omega, txG_out2 hin (by omega)⟩
          · by_cases h1 : i = f + n
            · exact .inr (.inl ⟨by omega, by simp; omega, txG_out2 hin (by omega)⟩)
            · exact .inr (.inr ⟨by omega, by simp; omega, txG_out1 hin ⟨h0, h1⟩⟩)
        clear hin
        rcases hs with ⟨s1, hnx⟩ | ⟨s1, s2, hnx⟩ | ⟨s1, s2, hnx⟩
        all_goals
          have Hnx := Lib.hid hnx
          clear hnx
          generalize txG a f n i = T at *
          rcases hc with ⟨c1, c2⟩ | ⟨c1, c2⟩
          all_goals
            go_wp2_with (first
              | (with_reducible refine wpList_loadAd rfl _ rfl rfl r1 ?_)
              | (go_at_call 59; refine (rgroup_any a i _ (by omega)).mono ?_; rintro e w2 ⟨rfl, hb2⟩; have r12 := r1.bel hb2)
              | (go_at_call 58; refine (rhex8_any _ _ hgl).mono ?_; rintro e w3 ⟨rfl, h3⟩; have h4 := h3.symm; subst h4; clear h3))
            all_goals
              go_roundw
              case rel => exact ⟨i + 1, by omega, by go_num, by rw [Hp.out, Hnx.out], r12, bel_tr r2 hb2⟩
              case measure => simp [intOf]; omega
    · have hi8 : i = 8 := by omega
      subst hi8
      have hl8 := txG_len8 a f n
      cases hm : mapB a with
      | true =>
        have hql := qtx_len (ad12 a)
        by_cases hz : 0 < a.zone
        case' pos => have hfin := colT_mz hm hz; have hzl := ite_len hz hzb
        case' neg => have hfin := colT_m hm hz
        all_goals
          have Hfin := Lib.hid hfin
          have Hm := Lib.hid hm
          have l0 := u8lt (a.b 12)
          have l1 := u8lt (a.b 13)
          have l2 := u8lt (a.b 14)
          have l3 := u8lt (a.b 15)
          clear hm hfin
          go_wp2_with (first
            | (with_reducible refine wpList_loadAd rfl _ rfl rfl r1 ?_)
            | (go_at_call 60; refine (rmapped_any a _).mono ?_; rintro e w2 ⟨rfl, hb2⟩; rw [Hm.out]; have r12 := r1.bel hb2
               have c0 := r12.cell 13
               have c1 := r12.cell 14
               have c2 := r12.cell 15
               have c3 := r12.cell 16
               rw [adA_13] at c0
               rw [adA_14] at c1
               rw [adA_15] at c2
               rw [adA_16] at c3)
            | (go_at_call 17; refine (rof_any _ _ _ _ _).mono ?_; rintro e w3 ⟨rfl, hb3⟩; have r13 := r12.bel hb3)
            | (go_at_call 43; refine (rqtext_any (ad12 a) _).mono ?_; rintro e w4 ⟨rfl, hb4⟩; have r14 := r13.bel hb4; have c4 := r14.cell 17; rw [adA_17] at c4)
            | (go_at_call 24; refine (rdigits_any _ _ (by omega) (by omega)).mono ?_; rintro e w5 ⟨rfl, h5⟩; have h6 := h5.symm; subst h6; clear h5))
          go_ret
          refine ⟨congrArg Ending.returned (vstr ?_), bel_tr r2 (bel_tr (bel_tr hb2 hb3) hb4)⟩
          rw [Hfin.out]
          simp [ffff]
      | false =>
        by_cases hz : 0 < a.zone
        case' pos => have hfin := colT_z hm hz; have hzl := ite_len hz hzb
        case' neg => have hfin := colT_n hm hz
        all_goals
          rw [Hp.out] at hfin
          simp only at hfin
          have Hfin := Lib.hid hfin
          have Hm := Lib.hid hm
          clear hm hfin
          generalize txG a f n 8 = T at *
          go_wp2_with (first
            | (with_reducible refine wpList_loadAd rfl _ rfl rfl r1 ?_)
            | (go_at_call 60; refine (rmapped_any a _).mono ?_; rintro e w2 ⟨rfl, hb2⟩; rw [Hm.out]; have r12 := r1.bel hb2; have c4 := r12.cell 17; rw [adA_17] at c4)
            | (go_at_call 24; refine (rdigits_any _ _ (by omega) (by omega)).mono ?_; rintro e w5 ⟨rfl, h5⟩; have h6 := h5.symm; subst h6; clear h5))
          go_ret
          refine ⟨congrArg Ending.returned (vstr ?_), bel_tr r2 hb2⟩
          rw [Hfin.out]
          try simp
end Go.Proofs.YtgebcifkbldfoaaGreatDoor

/- The contracts of addr.Map, of addr.Parse at texts without a colon; slices of one address. -/
namespace Go.Proofs.YtgebcifkbldfoaaGreatDoor
open Go.RowKit
attribute [local go_sem] ba_get ext_take ext_drop ext_any ba_app

theorem adE_cases (o : Option Ad) (n : Int) : ∃ x k, adE o n = .tuple #[.agg (adA x), .int .i64 k] := by
  cases o with
  | none => exact ⟨_, _, rfl⟩
  | some x => exact ⟨_, _, rfl⟩
set_option maxRecDepth 100000 in
set_option maxHeartbeats 1000000 in
theorem aparseQ_any (s : List UInt8) (w : World) (ht : Tab w) (hl : s.length ≤ 1000000000) (hc : Lib.indexByte s 58 = -1) : Calls Tryz.prog 62 #[.string ⟨s.toArray⟩] w (QpPost w s) := by
  have Ht := Lib.hid ht
  have Hc := Lib.hid hc
  clear ht hc
  obtain ⟨x, k, hxk⟩ := adE_cases (qpA s) 5
  have Hx := Lib.hid hxk
  clear hxk
  go_enter Tryz.func62, Tryz.ntmps62
  go_wp2_with (first
    | ((with_reducible refine wpList_allocAd rfl rfl ?_); intro g w1 hg hB hb hs; have hg1 : w.heap.size ≤ g := Nat.le_of_eq hg.symm; clear hg hs)
    | (go_at_call 75; refine (Tryz.strings_IndexByte _ _ _).mono ?_; rintro e w2 ⟨rfl, hw⟩; have hw2 := hw.symm; subst hw2; clear hw; rw [show Lib.indexByte (⟨s.toArray⟩ : ByteArray).data.toList ((58 : Int).toNat.toUInt8) = -1 from Hc.out])
    | (go_at_call 77; refine (qparse_any s _ (Ht.out.below hb) hl).mono ?_; rintro e w3 ⟨rfl, hb3⟩; rw [Hx.out]; have hB3 := hB.bel hb3)
    | ((with_reducible refine wpList_storeAd rfl _ _ rfl rfl rfl hB3 ?_); intro w4 hB4 hS4))
  refine ret_adE Tryz.results62 rfl rfl hB4 rfl ⟨by rw [Hx.out]; rfl, (bel_tr hb hb3).trans (hS4.below hg1)⟩
end Go.Proofs.YtgebcifkbldfoaaGreatDoor
