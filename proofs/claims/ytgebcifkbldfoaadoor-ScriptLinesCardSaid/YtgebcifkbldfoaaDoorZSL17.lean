/- Contracts and plain lemmas of our own, merged. -/
import Derived.Test.YtgebcifkbldfoaaDoorZSL10
import Derived.Test.YtgebcifkbldfoaaDoorZSL13
import Derived.Test.YtgebcifkbldfoaaDoorZSL16
import Derived.Test.YtgebcifkbldfoaaDoorZSL4
import Derived.Test.YtgebcifkbldfoaaDoorZSL5
import Derived.Laws.ResultCell
import Derived.Test.YtgebcifkbldfoaaDoorShelf
import Derived.Great.Walk
import Derived.Laws.CopyOwn
/- The contracts of quad.Text, quad.Parse and of their references. -/
namespace Go.Proofs.YtgebcifkbldfoaaDoor
open Go.RowKit
attribute [local go_sem] ba_get ext_take ext_drop ext_any ba_app

theorem Tab.below {w w' : World} (h : Tab w) (hb : Below w.heap.size w w') : Tab w' := Lib.tabBelow_of_tabIs h w' hb
/-- an address and an error are handed back. -/
theorem ret_adE {fn : Func} {p q : Tmp} (h : fn.results = #[.cell p 34, .tmp q]) {R : Ending → World → Prop} {a : Act} {w : World} {g : Nat} {t : TypeId} {b : Ad} {v : Value}
    (hp : a.tmps.getD p undef = .pointer (some ⟨g, 0, none⟩)) (hq : a.tmps.getD q undef = v) (hB : Bk w g t (adA b)) (hd : a.defers = []) (hR : R (.returned (.tuple #[.agg (adA b), v])) w) : bodyPost Tryd.prog fn R .ret a w := by
  refine bodyPost_ret_by (v := .tuple #[.agg (adA b), v]) ?_ hd hR
  have hp' : a.tmps[p]?.getD undef = .pointer (some ⟨g, 0, none⟩) := by simpa using hp
  have hq' : a.tmps[q]?.getD undef = v := by simpa using hq
  simp [results, h, hp', hq', asAddr, run_loadVar_row (P := Tryd.prog) w g t 34 (adA b) (0, 0) _ hB ad_under rfl (ad_size' b)]

theorem joi_qtx (a : Ad) : joi [46] [itu (a.b 0), itu (a.b 1), itu (a.b 2), itu (a.b 3)] = qtx a := joi_jB 46 _

set_option maxRecDepth 100000 in
set_option maxHeartbeats 1000000 in
theorem qtext_any (a : Ad) (w : World) (ht : Tab w) : Calls Tryd.prog 150 #[.agg (adA a)] w (StrPost w (qtx a)) := by
  have Ht := Lib.hid ht
  clear ht
  go_enter Tryd.func150, Tryd.ntmps150
  go_wp2_with (first
    | ((with_reducible refine wpList_boxB rfl _ _ rfl rfl ?_); intro g w1 hg hB hb hs; clear hg hs))
  have c0 := hB.cell 1
  have c1 := hB.cell 2
  have c2 := hB.cell 3
  have c3 := hB.cell 4
  rw [adA_1] at c0
  rw [adA_2] at c1
  rw [adA_3] at c2
  rw [adA_4] at c3
  have x0 := fun x : BelT w1 => x.cell c0
  have x1 := fun x : BelT w1 => x.cell c1
  have x2 := fun x : BelT w1 => x.cell c2
  have x3 := fun x : BelT w1 => x.cell c3
  have l0 := u8lt (a.b 0)
  have l1 := u8lt (a.b 1)
  have l2 := u8lt (a.b 2)
  have l3 := u8lt (a.b 3)
  clear c0 c1 c2 c3
  refine wp_region_bel_tail 20 (by kernel_rfl) (by kernel_rfl) ?_
  simp only [List.take_succ_cons, List.take_zero, List.drop_succ_cons, List.drop_zero]
  repeat (first
    | go_big_quiet_skip
    | (go_big_quiet_want; (go_big_quiet_op; first | go_big_quiet_on | go_big_quiet_call ((refine bel_call (digits_any _ _ (Ht.out.below (bel_tr hb (BelT.bel _))) (by omega) (by omega)))))))
  refine wpQuiet_nil ?_
  rintro _ ⟨x, rfl⟩
  have hbx := bel_tr hb x.bel
  have hsl := Sl.new x.at_ ([itu (a.b 0), itu (a.b 1), itu (a.b 2), itu (a.b 3)].map stv) 9
  have Hsl := Lib.hid hsl
  have hjl : (joi [46] [itu (a.b 0), itu (a.b 1), itu (a.b 2), itu (a.b 3)]).length ≤ 1000000000 := by rw [joi_qtx]; have := qtx_len a; omega
  have Hjl := Lib.hid hjl
  clear hsl hjl x0 x1 x2 x3
  go_wp2_with (first
    | (go_at_call 45; refine (join_any [46] [itu (a.b 0), itu (a.b 1), itu (a.b 2), itu (a.b 3)] _ _ Hsl.out (by simp) Hjl.out).mono ?_; rintro e w3 ⟨rfl, hb3⟩; rw [joi_qtx]))
  go_ret
  exact ⟨rfl, hbx.trans (((Below.refl _ _).alloc hbx.size _).trans (hb3.mono (by have := hbx.size; simp; omega)))⟩

def qL (a : Ad) : List (List UInt8) := [itu (a.b 0), itu (a.b 1), itu (a.b 2), itu (a.b 3)]
theorem qL_len (a : Ad) : (qL a).length = 4 := rfl
theorem qL_at (a : Ad) {k : Nat} (h : k < 4) : (qL a)[k]'(by rw [qL_len]; exact h) = itu (a.b k) := by
  match k, h with
  | 0, _ => rfl
  | 1, _ => rfl
  | 2, _ => rfl
  | 3, _ => rfl
theorem qL_joi (a : Ad) : joi [46] (qL a) = qtx a := joi_qtx a
theorem qL_le (a : Ad) {k : Nat} (h : k ≤ 4) : (joi [46] ((qL a).take k)).length ≤ 15 := by
  have h1 := joi_le (A := qL a) [46] k (by rw [qL_len]; exact h)
  rw [qL_joi] at h1
  have := qtx_len a
  omega
theorem qL_next0 (a : Ad) {k : Nat} (h : k = 0) : joi [46] ((qL a).take (k + 1)) = joi [46] ((qL a).take k) ++ itu (a.b k) := by
  subst h
  unfold joi qL
  simp [Lib.join_one, Lib.join_nil]
theorem qL_next (a : Ad) {k : Nat} (h : k < 4) (h0 : 0 < k) : joi [46] ((qL a).take (k + 1)) = joi [46] ((qL a).take k) ++ [46] ++ itu (a.b k) := by
  rw [joi_snoc [46] (by rw [qL_len]; exact h) h0, qL_at a h]
set_option maxRecDepth 100000 in
set_option maxHeartbeats 1000000 in
theorem rqtext_any (a : Ad) (w : World) : Calls Tryd.prog 120 #[.agg (adA a)] w (StrPost w (qtx a)) := by
  go_enter Tryd.func120, Tryd.ntmps120
  go_wp2_with (first
    | ((with_reducible refine wpList_boxB rfl _ _ rfl rfl ?_); intro g w1 hg hB hb hs; clear hg hs))
  go_loop [3, 4] (fun s i => ∃ k : Nat, k ≤ 4 ∧ i = .int .i64 k ∧ s = .string ⟨(joi [46] ((qL a).take k)).toArray⟩) (fun _ i => 4 - (intOf i).toNat)
  case atStart => exact ⟨0, by omega, rfl, rfl⟩
  case round =>
    obtain ⟨k, hk, rfl, rfl⟩ := hrel
    have hle := qL_le a hk
    by_cases hlt : k < 4
    · have c2 := hB.cell (k + 1)
      rw [adA_ip a (by omega)] at c2
      have c3 : w1.cell? ⟨g, 1 + k, none⟩ = some (.int .u8 ((a.b k).toNat : Int)) := by rw [Nat.add_comm]; exact c2
      clear c2
      have lk := u8lt (a.b k)
      have mk := itu_len (a.b k)
      have j1 : (k : Int) < 4 := by omega
      rcases Nat.eq_zero_or_pos k with h0 | h0
      · have hnx := qL_next0 a h0
        have Hnx := Lib.hid hnx
        have j0 : ¬ (0 : Int) < (k : Int) := by omega
        clear hnx h0
        generalize joi [46] ((qL a).take k) = T at *
        go_wp2_with fail
        refine (rdigits_any _ _ (by omega) (by omega)).mono ?_
        rintro e w' ⟨rfl, rfl⟩
        have j3 : (Lib.itoa (((a.b k).toNat : Nat) : Int)).length ≤ 3 := mk
        go_wp2
        go_round
        case rel => exact ⟨k + 1, by omega, by go_num, by rw [Hnx.out]; rfl⟩
        case measure => simp [intOf]; omega
      · have hnx := qL_next a hlt h0
        have Hnx := Lib.hid hnx
        clear hnx
        have j0 : (0 : Int) < (k : Int) := by omega
        generalize joi [46] ((qL a).take k) = T at *
        have j2 : T.length + 1 ≤ 16 := by omega
        go_wp2_with fail
        refine (rdigits_any _ _ (by omega) (by omega)).mono ?_
        rintro e w' ⟨rfl, rfl⟩
        have j3 : (Lib.itoa (((a.b k).toNat : Nat) : Int)).length ≤ 3 := mk
        go_wp2
        go_round
        case rel => exact ⟨k + 1, by omega, by go_num, by rw [Hnx.out, List.append_assoc]; rfl⟩
        case measure => simp [intOf]; omega
    · have hk4 : k = 4 := by omega
      subst hk4
      go_wp2
      go_ret
      exact ⟨by rw [← qL_joi]; rfl, hb⟩

/-! ### reading -/
theorem ofval_lt {l : List UInt8} (h : nokB l = true) : val l < 256 := by
  unfold nokB at h
  have := (of_decide_eq_true h).2.2
  omega
def QpPost (w : World) (s : List UInt8) (e : Ending) (w' : World) : Prop := e = .returned (adE (qpA s) 5) ∧ Below w.heap.size w w'
theorem QpPost.no {w w' : World} {s : List UInt8} (h : qpA s = none) (hb : Below w.heap.size w w') : QpPost w s (.returned (.tuple #[.agg (adA ad0), .int .i64 5])) w' := ⟨by rw [h]; rfl, hb⟩
theorem QpPost.yes {w w' : World} {s : List UInt8} {x : Ad} (h : qpA s = some x) (hb : Below w.heap.size w w') : QpPost w s (.returned (.tuple #[.agg (adA x), .int .i64 0])) w' := ⟨by rw [h]; rfl, hb⟩
theorem qpA_bad {s : List UInt8} {k : Nat} (hk : k < 4) (h : nokB (qpart s k) = false) : qpA s = none := by
  unfold qpA
  rw [if_neg]
  rintro ⟨h1, _⟩
  rw [qokB_bad hk h] at h1
  cases h1
theorem qpA_ne {s : List UInt8} (h : qtx (qad (qpart s) 4) ≠ s) : qpA s = none := by unfold qpA; rw [if_neg (fun k => h k.2)]
theorem qpA_yes {s : List UInt8} (h1 : qokB (qpart s) 4 = true) (h : qtx (qad (qpart s) 4) = s) : qpA s = some (qad (qpart s) 4) := by unfold qpA; rw [if_pos ⟨h1, h⟩]
def QpRel (w : World) (s : List UInt8) (g2 g4 k : Nat) (wr : World) : Prop :=
  Bk wr g2 34 (adA ad0) ∧ Bk wr g4 34 (adA (qad (qpart s) k)) ∧ qokB (qpart s) k = true ∧ Below w.heap.size w wr
set_option maxRecDepth 100000 in
set_option maxHeartbeats 1000000 in
theorem qparse_any (s : List UInt8) (w : World) (ht : Tab w) (hl : s.length ≤ 1000000000) : Calls Tryd.prog 128 #[.string ⟨s.toArray⟩] w (QpPost w s) := by
  have Ht := Lib.hid ht
  clear ht
  go_enter Tryd.func128, Tryd.ntmps128
  go_wp2_with (first
    | ((with_reducible refine wpList_allocAd (o := ⟨some 2, _, _, _, _, _⟩) rfl rfl ?_); intro g2 w1 hg hB2 hb1 hs; have hg2 : w.heap.size ≤ g2 := Nat.le_of_eq hg.symm; have hs2 : g2 + 1 = w1.heap.size := hs.symm; clear hg hs)
    | (with_reducible refine wpList_buildL rfl 34 _ rfl built_4 rfl ?_)
    | ((with_reducible refine wpList_allocAd (o := ⟨some 4, _, _, _, _, _⟩) rfl rfl ?_); intro g4 w2 hg hB4 hb2 hs; have hg4 : g2 < g4 := by omega
       clear hg hs hs2)
    | ((with_reducible refine wpList_storeAd rfl _ _ rfl rfl rfl hB4 ?_); intro w3 hB4' hS3))
  have R0 : QpRel w s g2 g4 0 w3 := ⟨(hB2.bel hb2).stays hS3 (by omega), hB4', rfl, (bel_tr hb1 hb2).trans (hS3.below (by omega))⟩
  clear hB2 hB4 hB4' hS3 hb1 hb2
  go_loopw [5, 14] (fun r i wr => ∃ k : Nat, k ≤ 4 ∧ i = .int .i64 k ∧ r = .string ⟨(qst s k).toArray⟩ ∧ QpRel w s g2 g4 k wr) (fun _ i _ => 4 - (intOf i).toNat)
  case atStart => exact ⟨0, by omega, rfl, rfl, R0⟩
  case round =>
    obtain ⟨k, hk, rfl, rfl, r1, r2, r3, r4⟩ := hrel
    clear R0
    by_cases hlt : k < 4
    · have j1 : (k : Int) < 4 := by omega
      have hql := qst_len s k
      have hpl := qpart_len s k
      cases hn : nokB (qpart s k) with
      | false =>
        have hbad := qpA_bad hlt hn
        obtain ⟨e, he1, he2⟩ := numV_no255 hn
        have He1 := Lib.hid he1
        have Hbad := Lib.hid hbad
        have i0 : (e != 0) = true := by rcases he2 with rfl | rfl <;> rfl
        clear he1 hbad he2 hn
        go_wp2_with (first
          | (go_at_call 80; refine (cut_any 46 _ _ (by omega)).mono ?_; rintro ed w4 ⟨rfl, hb4⟩; rw [cutV_eq])
          | (go_at_call 115; refine (number_any (qpart s k) _ _ (by omega) (by omega) (by omega)).mono ?_; rintro ed w5 ⟨rfl, rfl⟩; rw [He1.out])
          | (with_reducible refine wpList_buildL rfl 34 _ rfl built_0 rfl ?_)
          | ((with_reducible refine wpList_storeAd rfl _ _ rfl rfl rfl (r1.bel hb4) ?_); intro w6 hB6 hS6))
        exact ret_adE Tryd.results128 rfl rfl hB6 rfl (QpPost.no Hbad.out ((bel_tr r4 hb4).trans (hS6.below (by omega))))
      | true =>
        have hok := numV_ok255 hn
        have hv := ofval_lt hn
        have hq := qokB_next r3 hn
        have Hok := Lib.hid hok
        have Hq := Lib.hid hq
        clear hok hq hn
        have hu : (UInt8.ofNat (val (qpart s k))).toNat = val (qpart s k) := UInt8.toNat_ofNat_of_lt' hv
        have Hset := Lib.hid (adA_setB (qad (qpart s) k) (show k < 16 by omega) (UInt8.ofNat (val (qpart s k))))
        have Hu := Lib.hid hu
        clear hu
        have i2 : ((val (qpart s k) : Nat) : Int) < 256 := by omega
        have q1 : ∀ wz, Bk wz g4 34 (adA (qad (qpart s) k)) → wz.cell? ⟨g4, 1 + k, none⟩ = some (.int .u8 (((qad (qpart s) k).b k).toNat : Int)) := fun wz hz => by
          have := hz.cell (k + 1)
          rw [adA_ip _ (by omega)] at this
          rw [Nat.add_comm]; exact this
        have Q1 := Lib.hid q1
        clear q1
        go_wp2_with (first
          | (go_at_call 80; refine (cut_any 46 _ _ (by omega)).mono ?_; rintro ed w4 ⟨rfl, hb4⟩; rw [cutV_eq]
             have r14 := r1.bel hb4
             have r24 := r2.bel hb4
             have q4 := Q1.out _ r24
             have f4 := r24.free (1 + k))
          | (go_at_call 115; refine (number_any (qpart s k) _ _ (by omega) (by omega) (by omega)).mono ?_; rintro ed w5 ⟨rfl, rfl⟩; rw [Hok.out]))
        go_roundw
        case rel =>
          refine ⟨k + 1, by omega, by go_num, rfl, ?_, ?_, Hq.out, (bel_tr r4 hb4).setCell (show w.heap.size ≤ g4 by omega) _⟩
          · exact r14.far (by show g2 ≠ g4; omega) _
          · have := r24.set_ (1 + k) (.int .u8 ((val (qpart s k) : Nat) : Int))
            rw [← Hu.out, Nat.add_comm 1 k, Hset.out] at this
            rw [← Hu.out, Nat.add_comm 1 k]
            exact this
        case measure => simp [intOf]; omega
    · have hk4 : k = 4 := by omega
      subst hk4
      by_cases hne : qtx (qad (qpart s) 4) = s
      · have hyes := qpA_yes r3 hne
        have Hyes := Lib.hid hyes
        have i0 : (qtx (qad (qpart s) 4) == s) = true := by simpa using hne
        clear hyes hne r3
        go_wp2_with (first
          | (with_reducible refine wpList_loadAd (o := ⟨some 38, _, _, _, _, _⟩) rfl _ rfl rfl r2 ?_)
          | (go_at_call 150; refine (qtext_any _ _ (Ht.out.below r4)).mono ?_; rintro ed w4 ⟨rfl, hb4⟩; have r14 := r1.bel hb4; have r24 := r2.bel hb4)
          | (with_reducible refine wpList_loadAd (o := ⟨some 43, _, _, _, _, _⟩) rfl _ rfl rfl r24 ?_)
          | ((with_reducible refine wpList_storeAd rfl _ _ rfl rfl rfl r14 ?_); intro w6 hB6 hS6))
        exact ret_adE Tryd.results128 rfl rfl hB6 rfl (QpPost.yes Hyes.out ((bel_tr r4 hb4).trans (hS6.below (by omega))))
      · have hno := qpA_ne hne
        have Hno := Lib.hid hno
        have i0 : (qtx (qad (qpart s) 4) == s) = false := by simpa using hne
        clear hno hne r3
        go_wp2_with (first
          | (with_reducible refine wpList_loadAd (o := ⟨some 38, _, _, _, _, _⟩) rfl _ rfl rfl r2 ?_)
          | (go_at_call 150; refine (qtext_any _ _ (Ht.out.below r4)).mono ?_; rintro ed w4 ⟨rfl, hb4⟩; have r14 := r1.bel hb4; have r24 := r2.bel hb4)
          | (with_reducible refine wpList_buildL rfl 34 _ rfl built_0 rfl ?_)
          | ((with_reducible refine wpList_storeAd rfl _ _ rfl rfl rfl r14 ?_); intro w6 hB6 hS6))
        exact ret_adE Tryd.results128 rfl rfl hB6 rfl (QpPost.no Hno.out ((bel_tr r4 hb4).trans (hS6.below (by omega))))
end Go.Proofs.YtgebcifkbldfoaaDoor

/- The contract of quad.Loose. -/
namespace Go.Proofs.YtgebcifkbldfoaaDoor
open Go.RowKit
attribute [local go_sem] ba_get ext_take ext_drop ext_any ba_app

def LoPost (w : World) (s : List UInt8) (e : Ending) (w' : World) : Prop := e = .returned (adS (loose s)) ∧ Below w.heap.size w w'
theorem LoPost.no {w w' : World} {s : List UInt8} {c : Int} (h : loose s = .inl c) (hb : Below w.heap.size w w') : LoPost w s (.returned (.tuple #[.agg (adA ad0), .int .i64 c])) w' := ⟨by rw [h]; rfl, hb⟩
theorem LoPost.yes {w w' : World} {s : List UInt8} {x : Ad} (h : loose s = .inr x) (hb : Below w.heap.size w w') : LoPost w s (.returned (.tuple #[.agg (adA x), .int .i64 0])) w' := ⟨by rw [h]; rfl, hb⟩
def LoC (D : List Int) (b1 o1 : Nat) (wr : World) : Prop := ∀ (j : Nat) (hj : j < D.length), wr.cell? ⟨b1, o1 + j, none⟩ = some (.int .i64 D[j])
theorem LoC.stays {D : List Int} {b1 o1 g : Nat} {w w' : World} (h : LoC D b1 o1 w) (hs : Stays g w w') (hne : b1 ≠ g) : LoC D b1 o1 w' := fun j hj => (World.cell?_of_block (hs.block b1 hne)).trans (h j hj)
end Go.Proofs.YtgebcifkbldfoaaDoor

/- Addresses of Inet6 in writing, in plain words: groups, rows of noughts, texts. No walk here. -/
namespace Go.Proofs.YtgebcifkbldfoaaDoor
open Go.RowKit

/-- a group of an address. -/
def grp (a : Ad) (i : Nat) : Nat := 256 * (a.b (2 * i)).toNat + (a.b (2 * i + 1)).toNat
theorem grp_lt (a : Ad) (i : Nat) : grp a i < 65536 := by
  have h0 := (a.b (2 * i)).toNat_lt
  have h1 := (a.b (2 * i + 1)).toNat_lt
  unfold grp
  omega
end Go.Proofs.YtgebcifkbldfoaaDoor

/- Addresses of Inet6, read, in plain words. No walk here. -/
namespace Go.Proofs.YtgebcifkbldfoaaDoor
open Go.RowKit

theorem hexc_bd {c : UInt8} {d : Int} (h : hex (c.toNat : Int) = some d) : 0 ≤ d ∧ d < 16 := by
  have : ∀ c : Fin 256, ∀ d, hex (c.val : Int) = some d → 0 ≤ d ∧ d < 16 := by
    have h2 : ∀ c : Fin 256, (match hex (c.val : Int) with | some d => decide (0 ≤ d ∧ d < 16) | none => true) = true := by decide +kernel
    intro c d hd
    have := h2 c
    rw [hd] at this
    simpa using this
  exact this ⟨c.toNat, c.toNat_lt⟩ d h
/-- the number of figures of the base 16, behind n. -/
def grA : Nat → List UInt8 → Option Nat
  | n, [] => some n
  | n, c :: r => match hex (c.toNat : Int) with
    | some d => grA (16 * n + d.toNat) r
    | none => none
/-- a group that is written. -/
def grV (s : List UInt8) : Option Nat := if s = [] ∨ 4 < s.length then none else grA 0 s
theorem grA_bd : ∀ (s : List UInt8) (n m k : Nat), grA n s = some m → n < 16 ^ k → m < 16 ^ (k + s.length) := by
  intro s
  induction s with
  | nil => intro n m k h hn; rw [grA] at h; injection h with h; subst h; simpa using hn
  | cons c r ih =>
    intro n m k h hn
    rw [grA] at h
    cases hc : hex (c.toNat : Int) with
    | none => rw [hc] at h; cases h
    | some d =>
      rw [hc] at h
      have hd := hexc_bd hc
      have := ih (16 * n + d.toNat) m (k + 1) h (by rw [Nat.pow_succ]; omega)
      rw [List.length_cons, show k + (r.length + 1) = k + 1 + r.length by omega]
      exact this
theorem grV_lt {s : List UInt8} {m : Nat} (h : grV s = some m) : m < 65536 := by
  unfold grV at h
  split at h
  · cases h
  · next hs =>
    have := grA_bd s 0 m 0 h (by decide)
    have h2 : 16 ^ (0 + s.length) ≤ 16 ^ 4 := Nat.pow_le_pow_right (by decide) (by omega)
    have h3 : (16 : Nat) ^ 4 = 65536 := rfl
    omega
theorem grA_next {s : List UInt8} {i n : Nat} {d : Int} (h : i < s.length) (hd : hex (s[i].toNat : Int) = some d) : grA n (s.drop i) = grA (16 * n + d.toNat) (s.drop (i + 1)) := by
  rw [List.drop_eq_getElem_cons h, grA, hd]
theorem grA_bad {s : List UInt8} {i n : Nat} (h : i < s.length) (hd : hex (s[i].toNat : Int) = none) : grA n (s.drop i) = none := by
  rw [List.drop_eq_getElem_cons h, grA, hd]
/-- groups between colons; where last is true the last two may be an address of Inet. -/
def sidF (last : Bool) : List (List UInt8) → Option (List Nat)
  | [] => some []
  | p :: ps => match grV p with
    | some n => (sidF last ps).map (fun l => n :: l)
    | none => match qpA p with
      | some a => if last = true ∧ ps = [] then some [grp a 0, grp a 1] else none
      | none => none
def sidV (last : Bool) (s : List UInt8) : Option (List Nat) := if s = [] then some [] else sidF last (spB 58 [] s)
theorem sidF_lt {last : Bool} : ∀ {ps : List (List UInt8)} {l : List Nat}, sidF last ps = some l → ∀ n ∈ l, n < 65536 := by
  intro ps
  induction ps with
  | nil => intro l h; rw [sidF] at h; injection h with h; subst h; simp
  | cons p ps ih =>
    intro l h
    rw [sidF] at h
    cases hg : grV p with
    | some n =>
      rw [hg] at h
      simp only [Option.map_eq_some_iff] at h
      obtain ⟨l', h1, rfl⟩ := h
      intro m hm
      rw [List.mem_cons] at hm
      rcases hm with rfl | hm
      · exact grV_lt hg
      · exact ih h1 m hm
    | none =>
      rw [hg] at h
      cases hq : qpA p with
      | none => rw [hq] at h; cases h
      | some a =>
        rw [hq] at h
        simp only at h
        split at h
        · injection h with h; subst h
          intro m hm
          simp at hm
          rcases hm with rfl | rfl <;> exact grp_lt a _
        · cases h
theorem sidF_len {last : Bool} : ∀ {ps : List (List UInt8)} {l : List Nat}, sidF last ps = some l → l.length ≤ ps.length + 1 := by
  intro ps
  induction ps with
  | nil => intro l h; rw [sidF] at h; injection h with h; subst h; simp
  | cons p ps ih =>
    intro l h
    rw [sidF] at h
    cases hg : grV p with
    | some n =>
      rw [hg] at h
      simp only [Option.map_eq_some_iff] at h
      obtain ⟨l', h1, rfl⟩ := h
      have := ih h1
      simp; omega
    | none =>
      rw [hg] at h
      cases hq : qpA p with
      | none => rw [hq] at h; cases h
      | some a =>
        rw [hq] at h
        simp only at h
        split at h
        · injection h with h; subst h; simp
        · cases h
theorem sidV_lt {last : Bool} {s : List UInt8} {l : List Nat} (h : sidV last s = some l) : ∀ n ∈ l, n < 65536 := by
  unfold sidV at h
  split at h
  · injection h with h; subst h; simp
  · exact sidF_lt h
/-- a step of the groups. -/
def more (G : List Nat) (o : Option (List Nat)) : Option (List Nat) := o.map (fun l => G ++ l)
theorem more_nil (o : Option (List Nat)) : more [] o = o := by cases o <;> rfl
theorem more_hit {last : Bool} {G : List Nat} {p : List UInt8} {ps : List (List UInt8)} {n : Nat} (h : grV p = some n) : more G (sidF last (p :: ps)) = more (G ++ [n]) (sidF last ps) := by
  rw [sidF, h]
  unfold more
  cases sidF last ps <;> simp
theorem more_quad {G : List Nat} {p : List UInt8} {a : Ad} (h : grV p = none) (hq : qpA p = some a) : more G (sidF true [p]) = some (G ++ [grp a 0, grp a 1]) := by
  rw [sidF, h, hq]
  rfl
theorem more_none {last : Bool} {G : List Nat} {p : List UInt8} {ps : List (List UInt8)} (h : grV p = none) (hq : qpA p = none) : more G (sidF last (p :: ps)) = none := by
  rw [sidF, h, hq]
  rfl
theorem more_bad {last : Bool} {G : List Nat} {p : List UInt8} {ps : List (List UInt8)} {a : Ad} (h : grV p = none) (hq : qpA p = some a) (hl : last = false ∨ ps ≠ []) : more G (sidF last (p :: ps)) = none := by
  rw [sidF, h, hq]
  simp only
  rw [if_neg]
  · rfl
  · rintro ⟨h1, h2⟩
    rcases hl with hl | hl
    · rw [h1] at hl; cases hl
    · exact hl h2
/-- where two colons stand first. -/
def ddx : List UInt8 → Option Nat
  | a :: b :: r => if a = 58 ∧ b = 58 then some 0 else (ddx (b :: r)).map (· + 1)
  | _ => none
/-- the eight groups that are written. -/
def plV (s : List UInt8) : Option (List Nat) := match ddx s with
  | none => match sidV true s with
    | some l => if l.length = 8 then some l else none
    | none => none
  | some k => match sidV false (s.take k) with
    | some x => match sidV true (s.drop (k + 2)) with
      | some y => if x.length + y.length ≤ 7 then some (x ++ List.replicate (8 - x.length - y.length) 0 ++ y) else none
      | none => none
    | none => none
theorem plV_ok {s : List UInt8} {l : List Nat} (h : plV s = some l) : l.length = 8 ∧ ∀ n ∈ l, n < 65536 := by
  unfold plV at h
  cases hd : ddx s with
  | none =>
    rw [hd] at h
    simp only at h
    cases hs : sidV true s with
    | none => rw [hs] at h; cases h
    | some m =>
      rw [hs] at h
      simp only at h
      split at h
      · injection h with h; subst h; exact ⟨by assumption, sidV_lt hs⟩
      · cases h
  | some k =>
    rw [hd] at h
    simp only at h
    cases hx : sidV false (s.take k) with
    | none => rw [hx] at h; cases h
    | some x =>
      rw [hx] at h
      simp only at h
      cases hy : sidV true (s.drop (k + 2)) with
      | none => rw [hy] at h; cases h
      | some y =>
        rw [hy] at h
        simp only at h
        split at h
        · next hl =>
          injection h with h; subst h
          refine ⟨by simp; omega, fun n hn => ?_⟩
          rw [List.mem_append, List.mem_append] at hn
          rcases hn with (hn | hn) | hn
          · exact sidV_lt hx n hn
          · have := (List.mem_replicate.1 hn).2; omega
          · exact sidV_lt hy n hn
        · cases h
/-- the bytes of groups. -/
def gby : List Nat → List UInt8
  | [] => []
  | n :: r => UInt8.ofNat (n / 256) :: UInt8.ofNat (n % 256) :: gby r
theorem gby_len (l : List Nat) : (gby l).length = 2 * l.length := by
  induction l with
  | nil => rfl
  | cons n r ih => rw [gby]; simp [ih]; omega
/-- the address of groups. -/
def adG (l : List Nat) : Ad := if h : l.length = 8 then ⟨6, gby l, 0, by rw [gby_len, h], by decide, by decide⟩ else ad0
/-- a zone that is written. -/
def zoR (l : List UInt8) : Int ⊕ Int := if l ≠ [] ∧ l.all dgB = true then (if (val l : Int) ≤ 2147483647 then (if val l = 0 then .inl 4 else .inr (val l)) else .inl 4) else .inl 5
theorem zoR_bd {l : List UInt8} {n : Int} (h : zoR l = .inr n) : 0 < n ∧ n ≤ 2147483647 := by
  unfold zoR at h
  split at h
  · split at h
    · split at h
      · cases h
      · injection h with h; omega
    · cases h
  · cases h
/-- an address of Inet6 that is written. -/
def colP (s : List UInt8) : Int ⊕ Ad := match plV (hdB 37 s) with
  | none => .inl 5
  | some l => if hasB 37 s = true then (match h : zoR (tlB 37 s) with
      | .inl e => .inl e
      | .inr n => .inr ((adG l).setZ n (by have := zoR_bd h; omega))) else .inr (adG l)
end Go.Proofs.YtgebcifkbldfoaaDoor

/- The address of eight groups, byte by byte, in plain words. No walk here. -/
namespace Go.Proofs.YtgebcifkbldfoaaDoor
open Go.RowKit

def ad6 : Ad := ⟨6, List.replicate 16 0, 0, rfl, by decide, by decide⟩
/-- the address behind k groups. -/
def adP (l : List Nat) : Nat → Ad
  | 0 => ad6
  | k + 1 => ((adP l k).setB (2 * k) (UInt8.ofNat (l.getD k 0 / 256))).setB (2 * k + 1) (UInt8.ofNat (l.getD k 0 % 256))
theorem list8 {l : List Nat} (h : l.length = 8) : ∃ a b c d e f g i, l = [a, b, c, d, e, f, g, i] := by
  match l, h with
  | [a, b, c, d, e, f, g, i], _ => exact ⟨_, _, _, _, _, _, _, _, rfl⟩
theorem adP_8 {l : List Nat} (h : l.length = 8) : adP l 8 = adG l := by
  unfold adG
  rw [dif_pos h]
  obtain ⟨a, b, c, d, e, f, g, i, rfl⟩ := list8 h
  refine Ad.same rfl ?_ rfl
  simp [adP, Ad.setB, ad6, gby, List.replicate, List.set]
theorem adP_next {l : List Nat} {k : Nat} (h : k < l.length) : adP l (k + 1) = ((adP l k).setB (2 * k) (UInt8.ofNat (l[k] / 256))).setB (2 * k + 1) (UInt8.ofNat (l[k] % 256)) := by
  rw [adP, List.getD_eq_getElem?_getD, List.getElem?_eq_getElem h]
  rfl
end Go.Proofs.YtgebcifkbldfoaaDoor

/- The contracts of the reference's Parts (7) and parts (8): what stands between dots, between colons. -/
namespace Go.Proofs.YtgebcifkbldfoaaDoor
open Go.RowKit
attribute [local go_sem] ba_get ext_take ext_drop ext_any ba_app

theorem ptB_step {d : UInt8} {s : List UInt8} {i f : Nat} (h : i < s.length) (hf : f ≤ i) (hc : s[i] ≠ d) : spB d ((s.take i).drop f) (s.drop i) = spB d ((s.take (i + 1)).drop f) (s.drop (i + 1)) := by
  rw [List.drop_eq_getElem_cons h, spB, if_neg hc, List.take_succ_eq_append_getElem h, List.drop_append_of_le_length (by rw [List.length_take]; omega)]
theorem spB_cut {d : UInt8} {s cur : List UInt8} {i : Nat} (h : i < s.length) (hc : s[i] = d) : spB d cur (s.drop i) = cur :: spB d ((s.take (i + 1)).drop (i + 1)) (s.drop (i + 1)) := by
  have e : (s.take (i + 1)).drop (i + 1) = [] := List.drop_eq_nil_of_le (by rw [List.length_take]; omega)
  rw [List.drop_eq_getElem_cons h, spB, if_pos hc, e]
theorem spB_fin {d : UInt8} {s cur : List UInt8} : spB d cur (s.drop s.length) = [cur] := by rw [List.drop_length, spB]
def PtRel (d : UInt8) (w : World) (s : List UInt8) (f i : Nat) (v : Value) (wr : World) : Prop :=
  ∃ done : List (List UInt8), done.length ≤ i ∧ wr.ownsRow w.heap.size 9 1 v done.length (done.map stv) ∧ Below w.heap.size w wr ∧
    ((i ≤ s.length ∧ f ≤ i ∧ spB d [] s = done ++ spB d ((s.take i).drop f) (s.drop i)) ∨ (i = s.length + 1 ∧ f ≤ i ∧ spB d [] s = done))

set_option maxRecDepth 100000 in
set_option maxHeartbeats 1000000 in
theorem rparts7_any (s : List UInt8) (w : World) (hl : s.length ≤ 1000000000) : Calls Tryd.prog 119 #[.string ⟨s.toArray⟩] w (TextsPost w (spB 46 [] s)) := by
  go_enter Tryd.func119, Tryd.ntmps119
  go_wp2
  go_loopw [3, 4, 5] (fun v fv iv wr => ∃ f i : Nat, fv = .int .i64 f ∧ iv = .int .i64 i ∧ PtRel 46 w s f i v wr) (fun _ _ i _ => s.length + 1 - (intOf i).toNat)
  case atStart => exact ⟨0, 0, rfl, rfl, [], Nat.le_refl _, World.ownsRow_nil _ _ _ _, Below.refl _ _, .inl ⟨Nat.zero_le _, Nat.le_refl _, rfl⟩⟩
  case round =>
    obtain ⟨f, i, rfl, rfl, done, h2, h3, h4, hR⟩ := hrel
    have hsz := h4.size
    rcases hR with ⟨hi, hf, h1⟩ | ⟨hi, hf, h1⟩
    · have i0 : (i : Int) ≤ (s.length : Int) := by omega
      have hf2 : (f : Int) ≤ (i : Int) := by omega
      by_cases hlt : i < s.length
      · have i1 : ((i : Int) == (s.length : Int)) = false := by simp; omega
        have i2 : (i : Int) < (s.length : Int) := by omega
        by_cases hc : s[i] = 46
        · have hnx : spB 46 [] s = (done ++ [(s.take i).drop f]) ++ spB 46 ((s.take (i + 1)).drop (i + 1)) (s.drop (i + 1)) := by rw [h1, spB_cut hlt hc]; simp
          have Hnx := Lib.hid hnx
          have i3 : ((s[i].toNat : Int) == 46) = true := by rw [hc]; rfl
          clear hnx h1 hc
          go_wp2_with (at_builtin; refine wpList_appLit rfl _ _ _ rfl elt_strs (n := done.length) rfl h3 [stv ((s.take i).drop f)] (m := 1) rfl rfl (by simp [Value.oneCell', stv]) hsz (by omega) (by omega) ?_; intro v1 w1 ho1 hb1 hg1)
          go_roundw
          case rel => exact ⟨i + 1, i + 1, by go_num, by go_num, done ++ [(s.take i).drop f], by simp; omega, by simpa using ho1, h4.trans hb1, .inl ⟨by omega, by omega, Hnx.out⟩⟩
          case measure => simp [intOf]; omega
        · have hnx : spB 46 [] s = done ++ spB 46 ((s.take (i + 1)).drop f) (s.drop (i + 1)) := by rw [h1, ptB_step hlt hf hc]
          have Hnx := Lib.hid hnx
          have i3 : ((s[i].toNat : Int) == 46) = false := by
            rw [beq_eq_false_iff_ne]
            intro e
            exact hc (UInt8.toNat_inj.1 (by have : s[i].toNat = 46 := (by omega); rw [this]; rfl))
          clear hnx h1 hc
          go_wp2
          go_roundw
          case rel => exact ⟨f, i + 1, rfl, by go_num, done, by omega, h3, h4, .inl ⟨by omega, by omega, Hnx.out⟩⟩
          case measure => simp [intOf]; omega
      · have hie : i = s.length := by omega
        subst hie
        have hnx : spB 46 [] s = done ++ [s.drop f] := by rw [h1, spB_fin, List.take_length]
        have Hnx := Lib.hid hnx
        clear hnx h1
        go_wp2_with (at_builtin; refine wpList_appLit rfl _ _ _ rfl elt_strs (n := done.length) rfl h3 [stv (s.drop f)] (m := 1) rfl rfl (by simp [Value.oneCell', stv]) hsz (by omega) (by omega) ?_; intro v1 w1 ho1 hb1 hg1)
        go_roundw
        case rel => exact ⟨s.length + 1, s.length + 1, by go_num, by go_num, done ++ [s.drop f], by simp; omega, by simpa using ho1, h4.trans hb1, .inr ⟨rfl, Nat.le_refl _, Hnx.out⟩⟩
        case measure => simp [intOf]
    · have Hfin := Lib.hid h1
      subst hi
      clear h1
      go_wp2
      go_ret
      exact ⟨_, rfl, by rw [Hfin.out]; exact Sl.own h3, h4⟩

set_option maxRecDepth 100000 in
set_option maxHeartbeats 1000000 in
theorem rparts8_any (s : List UInt8) (w : World) (hl : s.length ≤ 1000000000) : Calls Tryd.prog 158 #[.string ⟨s.toArray⟩] w (TextsPost w (spB 58 [] s)) := by
  go_enter Tryd.func158, Tryd.ntmps158
  go_wp2
  go_loopw [3, 4, 5] (fun v fv iv wr => ∃ f i : Nat, fv = .int .i64 f ∧ iv = .int .i64 i ∧ PtRel 58 w s f i v wr) (fun _ _ i _ => s.length + 1 - (intOf i).toNat)
  case atStart => exact ⟨0, 0, rfl, rfl, [], Nat.le_refl _, World.ownsRow_nil _ _ _ _, Below.refl _ _, .inl ⟨Nat.zero_le _, Nat.le_refl _, rfl⟩⟩
  case round =>
    obtain ⟨f, i, rfl, rfl, done, h2, h3, h4, hR⟩ := hrel
    have hsz := h4.size
    rcases hR with ⟨hi, hf, h1⟩ | ⟨hi, hf, h1⟩
    · have i0 : (i : Int) ≤ (s.length : Int) := by omega
      have hf2 : (f : Int) ≤ (i : Int) := by omega
      by_cases hlt : i < s.length
      · have i1 : ((i : Int) == (s.length : Int)) = false := by simp; omega
        have i2 : (i : Int) < (s.length : Int) := by omega
        by_cases hc : s[i] = 58
        · have hnx : spB 58 [] s = (done ++ [(s.take i).drop f]) ++ spB 58 ((s.take (i + 1)).drop (i + 1)) (s.drop (i + 1)) := by rw [h1, spB_cut hlt hc]; simp
          have Hnx := Lib.hid hnx
          have i3 : ((s[i].toNat : Int) == 58) = true := by rw [hc]; rfl
          clear hnx h1 hc
          go_wp2_with (at_builtin; refine wpList_appLit rfl _ _ _ rfl elt_strs (n := done.length) rfl h3 [stv ((s.take i).drop f)] (m := 1) rfl rfl (by simp [Value.oneCell', stv]) hsz (by omega) (by omega) ?_; intro v1 w1 ho1 hb1 hg1)
          go_roundw
          case rel => exact ⟨i + 1, i + 1, by go_num, by go_num, done ++ [(s.take i).drop f], by simp; omega, by simpa using ho1, h4.trans hb1, .inl ⟨by omega, by omega, Hnx.out⟩⟩
          case measure => simp [intOf]; omega
        · have hnx : spB 58 [] s = done ++ spB 58 ((s.take (i + 1)).drop f) (s.drop (i + 1)) := by rw [h1, ptB_step hlt hf hc]
          have Hnx := Lib.hid hnx
          have i3 : ((s[i].toNat : Int) == 58) = false := by
            rw [beq_eq_false_iff_ne]
            intro e
            exact hc (UInt8.toNat_inj.1 (by have : s[i].toNat = 58 := (by omega); rw [this]; rfl))
          clear hnx h1 hc
          go_wp2
          go_roundw
          case rel => exact ⟨f, i + 1, rfl, by go_num, done, by omega, h3, h4, .inl ⟨by omega, by omega, Hnx.out⟩⟩
          case measure => simp [intOf]; omega
      · have hie : i = s.length := by omega
        subst hie
        have hnx : spB 58 [] s = done ++ [s.drop f] := by rw [h1, spB_fin, List.take_length]
        have Hnx := Lib.hid hnx
        clear hnx h1
        go_wp2_with (at_builtin; refine wpList_appLit rfl _ _ _ rfl elt_strs (n := done.length) rfl h3 [stv (s.drop f)] (m := 1) rfl rfl (by simp [Value.oneCell', stv]) hsz (by omega) (by omega) ?_; intro v1 w1 ho1 hb1 hg1)
        go_roundw
        case rel => exact ⟨s.length + 1, s.length + 1, by go_num, by go_num, done ++ [s.drop f], by simp; omega, by simpa using ho1, h4.trans hb1, .inr ⟨rfl, Nat.le_refl _, Hnx.out⟩⟩
        case measure => simp [intOf]
    · have Hfin := Lib.hid h1
      subst hi
      clear h1
      go_wp2
      go_ret
      exact ⟨_, rfl, by rw [Hfin.out]; exact Sl.own h3, h4⟩
end Go.Proofs.YtgebcifkbldfoaaDoor

/- The contracts of the reference's Group, empty, row, hex, Mapped, Text for addresses of Inet6. -/
namespace Go.Proofs.YtgebcifkbldfoaaDoor
open Go.RowKit
attribute [local go_sem] ba_get ext_take ext_drop ext_any ba_app

set_option maxRecDepth 100000 in
set_option maxHeartbeats 1000000 in
theorem rgroup_any (a : Ad) (i : Nat) (w : World) (hi : i < 8) : Calls Tryd.prog 160 #[.agg (adA a), .int .i64 (i : Int)] w fun e w' => e = .returned (.int .i64 (grp a i : Int)) ∧ Below w.heap.size w w' := by
  go_enter Tryd.func160, Tryd.ntmps160
  go_wp2_with (first
    | ((with_reducible refine wpList_boxB rfl _ _ rfl rfl ?_); intro g w1 hg hB hb hs; clear hg hs))
  have c0 := hB.cell (2 * i + 1)
  have c1 := hB.cell (2 * i + 1 + 1)
  rw [adA_ip a (by omega)] at c0 c1
  rw [show 2 * i + 1 = 1 + 2 * i by omega] at c0
  rw [show 2 * i + 1 + 1 = 1 + (2 * i + 1) by omega] at c1
  have x0 := fun x : BelT w1 => x.cell c0
  have x1 := fun x : BelT w1 => x.cell c1
  have l0 := u8lt (a.b (2 * i))
  have l1 := u8lt (a.b (2 * i + 1))
  clear c0 c1
  have t0 : (2 * (i : Int)).toNat = 2 * i := by omega
  have t1 : (2 * (i : Int) + 1).toNat = 2 * i + 1 := by omega
  have j0 : (0 : Int) ≤ 2 * (i : Int) := by omega
  have j1 : 2 * (i : Int) < 16 := by omega
  have j2 : (0 : Int) ≤ 2 * (i : Int) + 1 := by omega
  have j3 : 2 * (i : Int) + 1 < 16 := by omega
  have hfin : (grp a i : Int) = 256 * ((a.b (2 * i)).toNat : Int) + ((a.b (2 * i + 1)).toNat : Int) := by unfold grp; omega
  have Hfin := Lib.hid hfin
  clear hfin
  refine wp_region_bel (by kernel_rfl) (by kernel_rfl) ?_
  repeat (first
    | go_big_quiet_skip
    | (go_big_quiet_want; (go_big_quiet_op; go_big_quiet_on)))
  refine wpQuiet_nil ?_
  rintro _ ⟨x, rfl⟩
  go_wp2
  go_ret
  exact ⟨reti Hfin.out.symm, bel_tr hb x.bel⟩

def RowPost (w : World) (p : Nat × Nat) (e : Ending) (w' : World) : Prop := e = .returned (.tuple #[.int .i64 (p.1 : Int), .int .i64 (p.2 : Int)]) ∧ Below w.heap.size w w'
theorem RowPost.mk {w w' : World} {p : Nat × Nat} {f n : Nat} (h : p = (f, n)) (hb : Below w.heap.size w w') : RowPost w p (.returned (.tuple #[.int .i64 (f : Int), .int .i64 (n : Int)])) w' := ⟨by rw [h], hb⟩
end Go.Proofs.YtgebcifkbldfoaaDoor

/- The contracts of addr.Map, of addr.Parse at texts without a colon; slices of one address. -/
namespace Go.Proofs.YtgebcifkbldfoaaDoor
open Go.RowKit
attribute [local go_sem] ba_get ext_take ext_drop ext_any ba_app

theorem adE_cases (o : Option Ad) (n : Int) : ∃ x k, adE o n = .tuple #[.agg (adA x), .int .i64 k] := by
  cases o with
  | none => exact ⟨_, _, rfl⟩
  | some x => exact ⟨_, _, rfl⟩
set_option maxRecDepth 100000 in
set_option maxHeartbeats 1000000 in
theorem aparseQ_any (s : List UInt8) (w : World) (ht : Tab w) (hl : s.length ≤ 1000000000) (hc : Lib.indexByte s 58 = -1) : Calls Tryd.prog 96 #[.string ⟨s.toArray⟩] w (QpPost w s) := by
  have Ht := Lib.hid ht
  have Hc := Lib.hid hc
  clear ht hc
  obtain ⟨x, k, hxk⟩ := adE_cases (qpA s) 5
  have Hx := Lib.hid hxk
  clear hxk
  go_enter Tryd.func96, Tryd.ntmps96
  go_wp2_with (first
    | ((with_reducible refine wpList_allocAd rfl rfl ?_); intro g w1 hg hB hb hs; have hg1 : w.heap.size ≤ g := Nat.le_of_eq hg.symm; clear hg hs)
    | (go_at_call 83; refine (Tryd.strings_IndexByte _ _ _).mono ?_; rintro e w2 ⟨rfl, hw⟩; have hw2 := hw.symm; subst hw2; clear hw; rw [show Lib.indexByte (⟨s.toArray⟩ : ByteArray).data.toList ((58 : Int).toNat.toUInt8) = -1 from Hc.out])
    | (go_at_call 128; refine (qparse_any s _ (Ht.out.below hb) hl).mono ?_; rintro e w3 ⟨rfl, hb3⟩; rw [Hx.out]; have hB3 := hB.bel hb3)
    | ((with_reducible refine wpList_storeAd rfl _ _ rfl rfl rfl hB3 ?_); intro w4 hB4 hS4))
  refine ret_adE Tryd.results96 rfl rfl hB4 rfl ⟨by rw [Hx.out]; rfl, (bel_tr hb hb3).trans (hS4.below hg1)⟩
end Go.Proofs.YtgebcifkbldfoaaDoor
