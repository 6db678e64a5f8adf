/- Contracts and plain lemmas of our own, merged. -/
import Derived.Test.YtbffkddlkfefoaaDoorZhc10
import Derived.Test.YtbffkddlkfefoaaDoorZhc12
import Derived.Test.YtbffkddlkfefoaaDoorZhc15
import Derived.Test.YtbffkddlkfefoaaDoorZhc4
import Derived.Laws.ResultCell
import Derived.Test.YtbffkddlkfefoaaDoorShelf
import Derived.Great.Walk
import Derived.Laws.CopyOwn
/- The contracts of quad.Text, quad.Parse and of their references. -/
namespace Go.Proofs.YtbffkddlkfefoaaDoor
open Go.RowKit
attribute [local go_sem] ba_get ext_take ext_drop ext_any ba_app

theorem Tab.below {w w' : World} (h : Tab w) (hb : Below w.heap.size w w') : Tab w' := Lib.tabBelow_of_tabIs h w' hb
theorem u8lt (a : UInt8) : (a.toNat : Int) < 256 := by have := a.toNat_lt; omega
/-- an address and an error are handed back. -/
theorem ret_adE {fn : Func} {p q : Tmp} (h : fn.results = #[.cell p 24, .tmp q]) {R : Ending → World → Prop} {a : Act} {w : World} {g : Nat} {t : TypeId} {b : Ad} {v : Value}
    (hp : a.tmps.getD p undef = .pointer (some ⟨g, 0, none⟩)) (hq : a.tmps.getD q undef = v) (hB : Bk w g t (adA b)) (hd : a.defers = []) (hR : R (.returned (.tuple #[.agg (adA b), v])) w) : bodyPost Tryd.prog fn R .ret a w := by
  refine bodyPost_ret_by (v := .tuple #[.agg (adA b), v]) ?_ hd hR
  have hp' : a.tmps[p]?.getD undef = .pointer (some ⟨g, 0, none⟩) := by simpa using hp
  have hq' : a.tmps[q]?.getD undef = v := by simpa using hq
  simp [results, h, hp', hq', asAddr, run_loadVar_row (P := Tryd.prog) w g t 24 (adA b) (0, 0) _ hB ad_under rfl (ad_size' b)]

set_option maxRecDepth 100000 in
set_option maxHeartbeats 400000 in
theorem rof_any (a b c d : UInt8) (w : World) : Calls Tryd.prog 20 #[.int .i64 (a.toNat : Int), .int .i64 (b.toNat : Int), .int .i64 (c.toNat : Int), .int .i64 (d.toNat : Int)] w (AdPost w (adOf a b c d)) := by
  have H1 := Lib.hid (built_ip4 a b c d)
  have H2 := Lib.hid (built_of a b c d)
  have a1 := u8lt a
  have b1 := u8lt b
  have c1 := u8lt c
  have d1 := u8lt d
  go_enter Tryd.func20, Tryd.ntmps20
  go_wp2_with (first
    | ((with_reducible refine wpList_allocAd rfl rfl ?_); intro g w1 hg hB hb hs; have hg1 : w.heap.size ≤ g := Nat.le_of_eq hg.symm; clear hg hs)
    | (with_reducible refine wpList_buildL rfl 22 _ rfl H1.out rfl ?_)
    | (with_reducible refine wpList_buildL rfl 24 _ rfl H2.out rfl ?_)
    | ((with_reducible refine wpList_storeAd rfl _ _ rfl rfl rfl hB ?_); intro w2 hB2 hS2))
  exact ret_ad Tryd.results20 rfl hB2 rfl ⟨rfl, hb.trans (hS2.below hg1)⟩

theorem joi_qtx (a : Ad) : joi [46] [itu (a.b 0), itu (a.b 1), itu (a.b 2), itu (a.b 3)] = qtx a := joi_jB 46 _

set_option maxRecDepth 100000 in
set_option maxHeartbeats 1000000 in
theorem qtext_any (a : Ad) (w : World) (ht : Tab w) : Calls Tryd.prog 14 #[.agg (adA a)] w (StrPost w (qtx a)) := by
  have Ht := Lib.hid ht
  clear ht
  go_enter Tryd.func14, Tryd.ntmps14
  go_wp2_with (first
    | ((with_reducible refine wpList_boxB rfl _ _ rfl rfl ?_); intro g w1 hg hB hb hs; clear hg hs))
  have c0 := hB.cell 1
  have c1 := hB.cell 2
  have c2 := hB.cell 3
  have c3 := hB.cell 4
  rw [adA_1] at c0
  rw [adA_2] at c1
  rw [adA_3] at c2
  rw [adA_4] at c3
  have x0 := fun x : BelT w1 => x.cell c0
  have x1 := fun x : BelT w1 => x.cell c1
  have x2 := fun x : BelT w1 => x.cell c2
  have x3 := fun x : BelT w1 => x.cell c3
  have l0 := u8lt (a.b 0)
  have l1 := u8lt (a.b 1)
  have l2 := u8lt (a.b 2)
  have l3 := u8lt (a.b 3)
  clear c0 c1 c2 c3
  refine wp_region_bel_tail 20 (by kernel_rfl) (by kernel_rfl) ?_
  simp only [List.take_succ_cons, List.take_zero, List.drop_succ_cons, List.drop_zero]
  repeat (first
    | go_big_quiet_skip
    | (go_big_quiet_want; (go_big_quiet_op; first | go_big_quiet_on | go_big_quiet_call ((refine bel_call (digits_any _ _ (Ht.out.below (bel_tr hb (BelT.bel _))) (by omega) (by omega)))))))
  refine wpQuiet_nil ?_
  rintro _ ⟨x, rfl⟩
  have hbx := bel_tr hb x.bel
  have hsl := Sl.new x.at_ ([itu (a.b 0), itu (a.b 1), itu (a.b 2), itu (a.b 3)].map stv) 9
  have Hsl := Lib.hid hsl
  have hjl : (joi [46] [itu (a.b 0), itu (a.b 1), itu (a.b 2), itu (a.b 3)]).length ≤ 1000000000 := by rw [joi_qtx]; have := qtx_len a; omega
  have Hjl := Lib.hid hjl
  clear hsl hjl x0 x1 x2 x3
  go_wp2_with (first
    | (go_at_call 59; refine (join_any [46] [itu (a.b 0), itu (a.b 1), itu (a.b 2), itu (a.b 3)] _ _ Hsl.out (by simp) Hjl.out).mono ?_; rintro e w3 ⟨rfl, hb3⟩; rw [joi_qtx]))
  go_ret
  exact ⟨rfl, hbx.trans (((Below.refl _ _).alloc hbx.size _).trans (hb3.mono (by have := hbx.size; simp; omega)))⟩

def qL (a : Ad) : List (List UInt8) := [itu (a.b 0), itu (a.b 1), itu (a.b 2), itu (a.b 3)]
theorem qL_len (a : Ad) : (qL a).length = 4 := rfl
theorem qL_at (a : Ad) {k : Nat} (h : k < 4) : (qL a)[k]'(by rw [qL_len]; exact h) = itu (a.b k) := by
  match k, h with
  | 0, _ => rfl
  | 1, _ => rfl
  | 2, _ => rfl
  | 3, _ => rfl
theorem qL_joi (a : Ad) : joi [46] (qL a) = qtx a := joi_qtx a
theorem qL_le (a : Ad) {k : Nat} (h : k ≤ 4) : (joi [46] ((qL a).take k)).length ≤ 15 := by
  have h1 := joi_le (A := qL a) [46] k (by rw [qL_len]; exact h)
  rw [qL_joi] at h1
  have := qtx_len a
  omega
theorem qL_next0 (a : Ad) {k : Nat} (h : k = 0) : joi [46] ((qL a).take (k + 1)) = joi [46] ((qL a).take k) ++ itu (a.b k) := by
  subst h
  unfold joi qL
  simp [Lib.join_one, Lib.join_nil]
theorem qL_next (a : Ad) {k : Nat} (h : k < 4) (h0 : 0 < k) : joi [46] ((qL a).take (k + 1)) = joi [46] ((qL a).take k) ++ [46] ++ itu (a.b k) := by
  rw [joi_snoc [46] (by rw [qL_len]; exact h) h0, qL_at a h]
set_option maxRecDepth 100000 in
set_option maxHeartbeats 1000000 in
theorem rqtext_any (a : Ad) (w : World) : Calls Tryd.prog 19 #[.agg (adA a)] w (StrPost w (qtx a)) := by
  go_enter Tryd.func19, Tryd.ntmps19
  go_wp2_with (first
    | ((with_reducible refine wpList_boxB rfl _ _ rfl rfl ?_); intro g w1 hg hB hb hs; clear hg hs))
  go_loop [3, 4] (fun s i => ∃ k : Nat, k ≤ 4 ∧ i = .int .i64 k ∧ s = .string ⟨(joi [46] ((qL a).take k)).toArray⟩) (fun _ i => 4 - (intOf i).toNat)
  case atStart => exact ⟨0, by omega, rfl, rfl⟩
  case round =>
    obtain ⟨k, hk, rfl, rfl⟩ := hrel
    have hle := qL_le a hk
    by_cases hlt : k < 4
    · have c2 := hB.cell (k + 1)
      rw [adA_ip a (by omega)] at c2
      have c3 : w1.cell? ⟨g, 1 + k, none⟩ = some (.int .u8 ((a.b k).toNat : Int)) := by rw [Nat.add_comm]; exact c2
      clear c2
      have lk := u8lt (a.b k)
      have mk := itu_len (a.b k)
      have j1 : (k : Int) < 4 := by omega
      rcases Nat.eq_zero_or_pos k with h0 | h0
      · have hnx := qL_next0 a h0
        have Hnx := Lib.hid hnx
        have j0 : ¬ (0 : Int) < (k : Int) := by omega
        clear hnx h0
        generalize joi [46] ((qL a).take k) = T at *
        go_wp2_with fail
        refine (rdigits_any _ _ (by omega) (by omega)).mono ?_
        rintro e w' ⟨rfl, rfl⟩
        have j3 : (Lib.itoa (((a.b k).toNat : Nat) : Int)).length ≤ 3 := mk
        go_wp2
        go_round
        case rel => exact ⟨k + 1, by omega, by go_num, by rw [Hnx.out]; rfl⟩
        case measure => simp [intOf]; omega
      · have hnx := qL_next a hlt h0
        have Hnx := Lib.hid hnx
        clear hnx
        have j0 : (0 : Int) < (k : Int) := by omega
        generalize joi [46] ((qL a).take k) = T at *
        have j2 : T.length + 1 ≤ 16 := by omega
        go_wp2_with fail
        refine (rdigits_any _ _ (by omega) (by omega)).mono ?_
        rintro e w' ⟨rfl, rfl⟩
        have j3 : (Lib.itoa (((a.b k).toNat : Nat) : Int)).length ≤ 3 := mk
        go_wp2
        go_round
        case rel => exact ⟨k + 1, by omega, by go_num, by rw [Hnx.out, List.append_assoc]; rfl⟩
        case measure => simp [intOf]; omega
    · have hk4 : k = 4 := by omega
      subst hk4
      go_wp2
      go_ret
      exact ⟨by rw [← qL_joi]; rfl, hb⟩

/-! ### reading -/
theorem ofval_lt {l : List UInt8} (h : nokB l = true) : val l < 256 := by
  unfold nokB at h
  have := (of_decide_eq_true h).2.2
  omega
def QpPost (w : World) (s : List UInt8) (e : Ending) (w' : World) : Prop := e = .returned (adE (qpA s) 5) ∧ Below w.heap.size w w'
theorem QpPost.no {w w' : World} {s : List UInt8} (h : qpA s = none) (hb : Below w.heap.size w w') : QpPost w s (.returned (.tuple #[.agg (adA ad0), .int .i64 5])) w' := ⟨by rw [h]; rfl, hb⟩
theorem QpPost.yes {w w' : World} {s : List UInt8} {x : Ad} (h : qpA s = some x) (hb : Below w.heap.size w w') : QpPost w s (.returned (.tuple #[.agg (adA x), .int .i64 0])) w' := ⟨by rw [h]; rfl, hb⟩
theorem qpA_bad {s : List UInt8} {k : Nat} (hk : k < 4) (h : nokB (qpart s k) = false) : qpA s = none := by
  unfold qpA
  rw [if_neg]
  rintro ⟨h1, _⟩
  rw [qokB_bad hk h] at h1
  cases h1
theorem qpA_ne {s : List UInt8} (h : qtx (qad (qpart s) 4) ≠ s) : qpA s = none := by unfold qpA; rw [if_neg (fun k => h k.2)]
theorem qpA_yes {s : List UInt8} (h1 : qokB (qpart s) 4 = true) (h : qtx (qad (qpart s) 4) = s) : qpA s = some (qad (qpart s) 4) := by unfold qpA; rw [if_pos ⟨h1, h⟩]
def QpRel (w : World) (s : List UInt8) (g2 g4 k : Nat) (wr : World) : Prop :=
  Bk wr g2 24 (adA ad0) ∧ Bk wr g4 24 (adA (qad (qpart s) k)) ∧ qokB (qpart s) k = true ∧ Below w.heap.size w wr
set_option maxRecDepth 100000 in
set_option maxHeartbeats 1000000 in
theorem qparse_any (s : List UInt8) (w : World) (ht : Tab w) (hl : s.length ≤ 1000000000) : Calls Tryd.prog 15 #[.string ⟨s.toArray⟩] w (QpPost w s) := by
  have Ht := Lib.hid ht
  clear ht
  go_enter Tryd.func15, Tryd.ntmps15
  go_wp2_with (first
    | ((with_reducible refine wpList_allocAd (o := ⟨some 2, _, _, _, _, _⟩) rfl rfl ?_); intro g2 w1 hg hB2 hb1 hs; have hg2 : w.heap.size ≤ g2 := Nat.le_of_eq hg.symm; have hs2 : g2 + 1 = w1.heap.size := hs.symm; clear hg hs)
    | (with_reducible refine wpList_buildL rfl 24 _ rfl built_4 rfl ?_)
    | ((with_reducible refine wpList_allocAd (o := ⟨some 4, _, _, _, _, _⟩) rfl rfl ?_); intro g4 w2 hg hB4 hb2 hs; have hg4 : g2 < g4 := by omega
       clear hg hs hs2)
    | ((with_reducible refine wpList_storeAd rfl _ _ rfl rfl rfl hB4 ?_); intro w3 hB4' hS3))
  have R0 : QpRel w s g2 g4 0 w3 := ⟨(hB2.bel hb2).stays hS3 (by omega), hB4', rfl, (bel_tr hb1 hb2).trans (hS3.below (by omega))⟩
  clear hB2 hB4 hB4' hS3 hb1 hb2
  go_loopw [5, 14] (fun r i wr => ∃ k : Nat, k ≤ 4 ∧ i = .int .i64 k ∧ r = .string ⟨(qst s k).toArray⟩ ∧ QpRel w s g2 g4 k wr) (fun _ i _ => 4 - (intOf i).toNat)
  case atStart => exact ⟨0, by omega, rfl, rfl, R0⟩
  case round =>
    obtain ⟨k, hk, rfl, rfl, r1, r2, r3, r4⟩ := hrel
    clear R0
    by_cases hlt : k < 4
    · have j1 : (k : Int) < 4 := by omega
      have hql := qst_len s k
      have hpl := qpart_len s k
      cases hn : nokB (qpart s k) with
      | false =>
        have hbad := qpA_bad hlt hn
        obtain ⟨e, he1, he2⟩ := numV_no255 hn
        have He1 := Lib.hid he1
        have Hbad := Lib.hid hbad
        have i0 : (e != 0) = true := by rcases he2 with rfl | rfl <;> rfl
        clear he1 hbad he2 hn
        go_wp2_with (first
          | (go_at_call 61; refine (cut_any 46 _ _ (by omega)).mono ?_; rintro ed w4 ⟨rfl, hb4⟩; rw [cutV_eq])
          | (go_at_call 62; refine (number_any (qpart s k) _ _ (by omega) (by omega) (by omega)).mono ?_; rintro ed w5 ⟨rfl, rfl⟩; rw [He1.out])
          | (with_reducible refine wpList_buildL rfl 24 _ rfl built_0 rfl ?_)
          | ((with_reducible refine wpList_storeAd rfl _ _ rfl rfl rfl (r1.bel hb4) ?_); intro w6 hB6 hS6))
        exact ret_adE Tryd.results15 rfl rfl hB6 rfl (QpPost.no Hbad.out ((bel_tr r4 hb4).trans (hS6.below (by omega))))
      | true =>
        have hok := numV_ok255 hn
        have hv := ofval_lt hn
        have hq := qokB_next r3 hn
        have Hok := Lib.hid hok
        have Hq := Lib.hid hq
        clear hok hq hn
        have hu : (UInt8.ofNat (val (qpart s k))).toNat = val (qpart s k) := UInt8.toNat_ofNat_of_lt' hv
        have Hset := Lib.hid (adA_setB (qad (qpart s) k) (show k < 16 by omega) (UInt8.ofNat (val (qpart s k))))
        have Hu := Lib.hid hu
        clear hu
        have i2 : ((val (qpart s k) : Nat) : Int) < 256 := by omega
        have q1 : ∀ wz, Bk wz g4 24 (adA (qad (qpart s) k)) → wz.cell? ⟨g4, 1 + k, none⟩ = some (.int .u8 (((qad (qpart s) k).b k).toNat : Int)) := fun wz hz => by
          have := hz.cell (k + 1)
          rw [adA_ip _ (by omega)] at this
          rw [Nat.add_comm]; exact this
        have Q1 := Lib.hid q1
        clear q1
        go_wp2_with (first
          | (go_at_call 61; refine (cut_any 46 _ _ (by omega)).mono ?_; rintro ed w4 ⟨rfl, hb4⟩; rw [cutV_eq]
             have r14 := r1.bel hb4
             have r24 := r2.bel hb4
             have q4 := Q1.out _ r24
             have f4 := r24.free (1 + k))
          | (go_at_call 62; refine (number_any (qpart s k) _ _ (by omega) (by omega) (by omega)).mono ?_; rintro ed w5 ⟨rfl, rfl⟩; rw [Hok.out]))
        go_roundw
        case rel =>
          refine ⟨k + 1, by omega, by go_num, rfl, ?_, ?_, Hq.out, (bel_tr r4 hb4).setCell (show w.heap.size ≤ g4 by omega) _⟩
          · exact r14.far (by show g2 ≠ g4; omega) _
          · have := r24.set_ (1 + k) (.int .u8 ((val (qpart s k) : Nat) : Int))
            rw [← Hu.out, Nat.add_comm 1 k, Hset.out] at this
            rw [← Hu.out, Nat.add_comm 1 k]
            exact this
        case measure => simp [intOf]; omega
    · have hk4 : k = 4 := by omega
      subst hk4
      by_cases hne : qtx (qad (qpart s) 4) = s
      · have hyes := qpA_yes r3 hne
        have Hyes := Lib.hid hyes
        have i0 : (qtx (qad (qpart s) 4) == s) = true := by simpa using hne
        clear hyes hne r3
        go_wp2_with (first
          | (with_reducible refine wpList_loadAd (o := ⟨some 38, _, _, _, _, _⟩) rfl _ rfl rfl r2 ?_)
          | (go_at_call 14; refine (qtext_any _ _ (Ht.out.below r4)).mono ?_; rintro ed w4 ⟨rfl, hb4⟩; have r14 := r1.bel hb4; have r24 := r2.bel hb4)
          | (with_reducible refine wpList_loadAd (o := ⟨some 43, _, _, _, _, _⟩) rfl _ rfl rfl r24 ?_)
          | ((with_reducible refine wpList_storeAd rfl _ _ rfl rfl rfl r14 ?_); intro w6 hB6 hS6))
        exact ret_adE Tryd.results15 rfl rfl hB6 rfl (QpPost.yes Hyes.out ((bel_tr r4 hb4).trans (hS6.below (by omega))))
      · have hno := qpA_ne hne
        have Hno := Lib.hid hno
        have i0 : (qtx (qad (qpart s) 4) == s) = false := by simpa using hne
        clear hno hne r3
        go_wp2_with (first
          | (with_reducible refine wpList_loadAd (o := ⟨some 38, _, _, _, _, _⟩) rfl _ rfl rfl r2 ?_)
          | (go_at_call 14; refine (qtext_any _ _ (Ht.out.below r4)).mono ?_; rintro ed w4 ⟨rfl, hb4⟩; have r14 := r1.bel hb4; have r24 := r2.bel hb4)
          | (with_reducible refine wpList_buildL rfl 24 _ rfl built_0 rfl ?_)
          | ((with_reducible refine wpList_storeAd rfl _ _ rfl rfl rfl r14 ?_); intro w6 hB6 hS6))
        exact ret_adE Tryd.results15 rfl rfl hB6 rfl (QpPost.no Hno.out ((bel_tr r4 hb4).trans (hS6.below (by omega))))
end Go.Proofs.YtbffkddlkfefoaaDoor

/- The contracts of quad.inBase, number, numbers, Loose. -/
namespace Go.Proofs.YtbffkddlkfefoaaDoor
open Go.RowKit
attribute [local go_sem] ba_get ext_take ext_drop ext_any ba_app

def inV : Option Int → Value
  | some n => .tuple #[.int .i64 n, .bool true]
  | none => .tuple #[.int .i64 0, .bool false]
theorem inn {o : Option Int} (h : o = none) : Ending.returned (.tuple #[.int .i64 0, .bool false]) = .returned (inV o) := by rw [h]; rfl
theorem ins {o : Option Int} {n : Int} (h : o = some n) : Ending.returned (.tuple #[.int .i64 n, .bool true]) = .returned (inV o) := by rw [h]; rfl
theorem hex_bd {c d : Int} (h : hex c = some d) : 0 ≤ d ∧ d ≤ 15 := by
  unfold hex at h
  split at h
  · injection h with h; omega
  · split at h
    · injection h with h; omega
    · split at h
      · injection h with h; omega
      · cases h
theorem inBs_none {b n : Int} {l : List UInt8} {k : Nat} (h : k < l.length) (hh : hex (l[k].toNat : Int) = none) : inBs b n (l.drop k) = none := by
  rw [List.drop_eq_getElem_cons h, inBs, hh]
theorem inBs_big {b n d : Int} {l : List UInt8} {k : Nat} (h : k < l.length) (hh : hex (l[k].toNat : Int) = some d) (hd : b ≤ d) : inBs b n (l.drop k) = none := by
  rw [List.drop_eq_getElem_cons h, inBs, hh]; exact if_pos hd
theorem inBs_next {b n d m : Int} {l : List UInt8} {k : Nat} (h : k < l.length) (hh : hex (l[k].toNat : Int) = some d) (hd : ¬ b ≤ d) (hm : min (n * b + d) 4294967296 = m) : inBs b n (l.drop k) = inBs b m (l.drop (k + 1)) := by
  rw [List.drop_eq_getElem_cons h, inBs, hh]; simp only; rw [if_neg hd, hm]
set_option maxRecDepth 100000 in
set_option maxHeartbeats 1000000 in
theorem inbase_any (l : List UInt8) (b : Nat) (w : World) (hb2 : b ≤ 16) (hl : l.length ≤ 1000000000) : Calls Tryd.prog 168 #[.string ⟨l.toArray⟩, .int .i64 (b : Int)] w fun e w' => e = .returned (inV (inBs (b : Int) 0 l)) ∧ w = w' := by
  go_enter Tryd.func168, Tryd.ntmps168
  go_wp2
  go_loop [6, 12] (fun n i => ∃ k m : Nat, k ≤ l.length ∧ m ≤ 4294967296 ∧ i = .int .i64 k ∧ n = .int .i64 m ∧ inBs (b : Int) 0 l = inBs (b : Int) (m : Int) (l.drop k)) (fun _ i => l.length - (intOf i).toNat)
  case atStart => exact ⟨0, 0, Nat.zero_le _, by omega, rfl, rfl, rfl⟩
  case round =>
    obtain ⟨k, m, hk, hm, rfl, rfl, hR⟩ := hrel
    have HR := Lib.hid hR
    clear hR
    by_cases hlt : k < l.length
    · have i1 : (k : Int) < (l.length : Int) := by omega
      have hc := u8lt l[k]
      cases hh : hex (l[k].toNat : Int) with
      | none =>
        have hfin : inBs (b : Int) 0 l = none := by rw [HR.out]; exact inBs_none hlt hh
        have Hfin := Lib.hid hfin
        have Hh := Lib.hid hh
        clear hfin hh
        go_wp2_with fail
        refine (hex_any _ _ (by omega) (by omega)).mono ?_
        rintro e w' ⟨rfl, rfl⟩
        rw [Hh.out]
        unfold hexV
        go_wp2
        go_ret2
        exact ⟨inn Hfin.out, rfl⟩
      | some d =>
        have hd := hex_bd hh
        by_cases hbd : (b : Int) ≤ d
        · have hfin : inBs (b : Int) 0 l = none := by rw [HR.out]; exact inBs_big hlt hh hbd
          have Hfin := Lib.hid hfin
          have Hh := Lib.hid hh
          clear hfin hh
          go_wp2_with fail
          refine (hex_any _ _ (by omega) (by omega)).mono ?_
          rintro e w' ⟨rfl, rfl⟩
          rw [Hh.out]
          unfold hexV
          go_wp2
          go_ret2
          exact ⟨inn Hfin.out, rfl⟩
        · have hJ : m * b ≤ 4294967296 * 16 := Nat.mul_le_mul hm hb2
          have hJe : (m : Int) * (b : Int) = ((m * b : Nat) : Int) := by omega
          generalize hJn : m * b = J at *
          have hnx : inBs (b : Int) 0 l = inBs (b : Int) (min ((J : Int) + d) 4294967296) (l.drop (k + 1)) := by rw [HR.out]; exact inBs_next hlt hh hbd (by rw [hJe])
          obtain ⟨M, hM, hM2⟩ : ∃ M : Nat, min ((J : Int) + d) 4294967296 = (M : Int) ∧ M ≤ 4294967296 := ⟨(min ((J : Int) + d) 4294967296).toNat, by omega, by omega⟩
          have Hnx := Lib.hid (hM ▸ hnx)
          have HM := Lib.hid hM
          have Hh := Lib.hid hh
          clear hnx hh hJn hM
          go_wp2_with fail
          refine (hex_any _ _ (by omega) (by omega)).mono ?_
          rintro e w' ⟨rfl, rfl⟩
          rw [Hh.out]
          unfold hexV
          go_wp2
          all_goals
            go_round
            case rel => exact ⟨k + 1, M, by omega, hM2, by go_num, by first | rw [← HM.out] | (rw [← HM.out]; congr 1; omega), Hnx.out⟩
            case measure => simp [intOf]; omega
    · have hfin : inBs (b : Int) 0 l = some (m : Int) := by rw [HR.out, List.drop_of_length_le (by omega)]; rfl
      have Hfin := Lib.hid hfin
      clear hfin
      go_wp2
      go_ret2
      exact ⟨ins Hfin.out, rfl⟩

theorem at0 {s : List UInt8} (h : 0 < s.length) : s[0]? = some s[0] := List.getElem?_eq_getElem h
theorem eq48 {c : UInt8} (h : ((c.toNat : Int) == 48) = true) : c = 48 := by
  have h2 : c.toNat = 48 := by have := beq_iff_eq.1 h; omega
  exact UInt8.toNat_inj.1 h2
theorem ne48 {c : UInt8} (h : ((c.toNat : Int) == 48) = false) : c ≠ 48 := by
  intro e; subst e; revert h; decide
set_option maxRecDepth 100000 in
set_option maxHeartbeats 1000000 in
theorem qn_a (s : List UInt8) (w : World) (hl : s.length ≤ 1000000000) (hpos : 0 < s.length) (i2 : ¬ (2 : Int) < (s.length : Int)) (e0 : ((s[0].toNat : Int) == 48) = true) : Calls Tryd.prog 119 #[.string ⟨s.toArray⟩] w fun e w' => e = .returned (inV (qnum s)) ∧ w = w' := by
  have hne : s ≠ [] := List.length_pos_iff.1 hpos
  have he : s.isEmpty = false := by simpa using hne
  have hq : qnum s = inBs (8 : Int) 0 (s) := by
    unfold qnum; rw [if_neg hne, if_neg (fun h => i2 (by omega)), at0 hpos, if_pos (by rw [eq48 e0])]
  have Hq := Lib.hid hq
  clear hq hne
  go_enter Tryd.func119, Tryd.ntmps119
  go_wp2_with fail
  refine (inbase_any (s) 8 _ (by omega) (by omega)).mono ?_
  rintro e w' ⟨rfl, rfl⟩
  have HQ : Hid (qnum s = inBs ((8 : Nat) : Int) 0 (s)) := Lib.hid Hq.out
  generalize inBs ((8 : Nat) : Int) 0 (s) = o at *
  cases o with
  | none =>
    unfold inV
    go_wp2
    go_ret2
    exact ⟨inn HQ.out, rfl⟩
  | some n =>
    unfold inV
    go_wp2
    go_ret2
    exact ⟨ins HQ.out, rfl⟩

set_option maxRecDepth 100000 in
set_option maxHeartbeats 1000000 in
theorem qn_b (s : List UInt8) (w : World) (hl : s.length ≤ 1000000000) (hpos : 0 < s.length) (i2 : ¬ (2 : Int) < (s.length : Int)) (e0 : ((s[0].toNat : Int) == 48) = false) : Calls Tryd.prog 119 #[.string ⟨s.toArray⟩] w fun e w' => e = .returned (inV (qnum s)) ∧ w = w' := by
  have hne : s ≠ [] := List.length_pos_iff.1 hpos
  have he : s.isEmpty = false := by simpa using hne
  have hq : qnum s = inBs (10 : Int) 0 (s) := by
    unfold qnum; rw [if_neg hne, if_neg (fun h => i2 (by omega)), at0 hpos, if_neg (fun h => ne48 e0 (by injection h))]
  have Hq := Lib.hid hq
  clear hq hne
  go_enter Tryd.func119, Tryd.ntmps119
  go_wp2_with fail
  refine (inbase_any (s) 10 _ (by omega) (by omega)).mono ?_
  rintro e w' ⟨rfl, rfl⟩
  have HQ : Hid (qnum s = inBs ((10 : Nat) : Int) 0 (s)) := Lib.hid Hq.out
  generalize inBs ((10 : Nat) : Int) 0 (s) = o at *
  cases o with
  | none =>
    unfold inV
    go_wp2
    go_ret2
    exact ⟨inn HQ.out, rfl⟩
  | some n =>
    unfold inV
    go_wp2
    go_ret2
    exact ⟨ins HQ.out, rfl⟩

set_option maxRecDepth 100000 in
set_option maxHeartbeats 1000000 in
theorem qn_c (s : List UInt8) (w : World) (hl : s.length ≤ 1000000000) (hpos : 0 < s.length) (i2 : (2 : Int) < (s.length : Int)) (e0 : ((s[0].toNat : Int) == 48) = false) : Calls Tryd.prog 119 #[.string ⟨s.toArray⟩] w fun e w' => e = .returned (inV (qnum s)) ∧ w = w' := by
  have hne : s ≠ [] := List.length_pos_iff.1 hpos
  have he : s.isEmpty = false := by simpa using hne
  have hq : qnum s = inBs (10 : Int) 0 (s) := by
    unfold qnum; rw [if_neg hne, if_neg (fun h => ne48 e0 (by have := h.2.1; rw [at0 hpos] at this; injection this)), at0 hpos, if_neg (fun h => ne48 e0 (by injection h))]
  have Hq := Lib.hid hq
  clear hq hne
  go_enter Tryd.func119, Tryd.ntmps119
  go_wp2_with fail
  refine (inbase_any (s) 10 _ (by omega) (by omega)).mono ?_
  rintro e w' ⟨rfl, rfl⟩
  have HQ : Hid (qnum s = inBs ((10 : Nat) : Int) 0 (s)) := Lib.hid Hq.out
  generalize inBs ((10 : Nat) : Int) 0 (s) = o at *
  cases o with
  | none =>
    unfold inV
    go_wp2
    go_ret2
    exact ⟨inn HQ.out, rfl⟩
  | some n =>
    unfold inV
    go_wp2
    go_ret2
    exact ⟨ins HQ.out, rfl⟩

set_option maxRecDepth 100000 in
set_option maxHeartbeats 1000000 in
theorem qn_d (s : List UInt8) (w : World) (hl : s.length ≤ 1000000000) (hpos : 0 < s.length) (i2 : (2 : Int) < (s.length : Int)) (e0 : ((s[0].toNat : Int) == 48) = true) (e1 : (((s[1]'(by omega)).toNat : Int) == 120) = true) : Calls Tryd.prog 119 #[.string ⟨s.toArray⟩] w fun e w' => e = .returned (inV (qnum s)) ∧ w = w' := by
  have hne : s ≠ [] := List.length_pos_iff.1 hpos
  have he : s.isEmpty = false := by simpa using hne
  have hq : qnum s = inBs (16 : Int) 0 (s.drop 2) := by
    unfold qnum; rw [if_neg hne, if_pos ⟨by omega, by rw [at0 hpos, eq48 e0], .inl (by rw [List.getElem?_eq_getElem (by omega)]; congr 1; exact UInt8.toNat_inj.1 (by have := beq_iff_eq.1 e1; show _ = 120; omega))⟩]
  have Hq := Lib.hid hq
  clear hq hne
  go_enter Tryd.func119, Tryd.ntmps119
  go_wp2_with fail
  refine (inbase_any (s.drop 2) 16 _ (by omega) (by rw [List.length_drop]; omega)).mono ?_
  rintro e w' ⟨rfl, rfl⟩
  have HQ : Hid (qnum s = inBs ((16 : Nat) : Int) 0 (s.drop 2)) := Lib.hid Hq.out
  generalize inBs ((16 : Nat) : Int) 0 (s.drop 2) = o at *
  cases o with
  | none =>
    unfold inV
    go_wp2
    go_ret2
    exact ⟨inn HQ.out, rfl⟩
  | some n =>
    unfold inV
    go_wp2
    go_ret2
    exact ⟨ins HQ.out, rfl⟩

set_option maxRecDepth 100000 in
set_option maxHeartbeats 1000000 in
theorem qn_e (s : List UInt8) (w : World) (hl : s.length ≤ 1000000000) (hpos : 0 < s.length) (i2 : (2 : Int) < (s.length : Int)) (e0 : ((s[0].toNat : Int) == 48) = true) (e1 : (((s[1]'(by omega)).toNat : Int) == 120) = false) (e2 : (((s[1]'(by omega)).toNat : Int) == 88) = true) : Calls Tryd.prog 119 #[.string ⟨s.toArray⟩] w fun e w' => e = .returned (inV (qnum s)) ∧ w = w' := by
  have hne : s ≠ [] := List.length_pos_iff.1 hpos
  have he : s.isEmpty = false := by simpa using hne
  have hq : qnum s = inBs (16 : Int) 0 (s.drop 2) := by
    unfold qnum; rw [if_neg hne, if_pos ⟨by omega, by rw [at0 hpos, eq48 e0], .inr (by rw [List.getElem?_eq_getElem (by omega)]; congr 1; exact UInt8.toNat_inj.1 (by have := beq_iff_eq.1 e2; show _ = 88; omega))⟩]
  have Hq := Lib.hid hq
  clear hq hne
  go_enter Tryd.func119, Tryd.ntmps119
  go_wp2_with fail
  refine (inbase_any (s.drop 2) 16 _ (by omega) (by rw [List.length_drop]; omega)).mono ?_
  rintro e w' ⟨rfl, rfl⟩
  have HQ : Hid (qnum s = inBs ((16 : Nat) : Int) 0 (s.drop 2)) := Lib.hid Hq.out
  generalize inBs ((16 : Nat) : Int) 0 (s.drop 2) = o at *
  cases o with
  | none =>
    unfold inV
    go_wp2
    go_ret2
    exact ⟨inn HQ.out, rfl⟩
  | some n =>
    unfold inV
    go_wp2
    go_ret2
    exact ⟨ins HQ.out, rfl⟩

set_option maxRecDepth 100000 in
set_option maxHeartbeats 1000000 in
theorem qn_f (s : List UInt8) (w : World) (hl : s.length ≤ 1000000000) (hpos : 0 < s.length) (i2 : (2 : Int) < (s.length : Int)) (e0 : ((s[0].toNat : Int) == 48) = true) (e1 : (((s[1]'(by omega)).toNat : Int) == 120) = false) (e2 : (((s[1]'(by omega)).toNat : Int) == 88) = false) : Calls Tryd.prog 119 #[.string ⟨s.toArray⟩] w fun e w' => e = .returned (inV (qnum s)) ∧ w = w' := by
  have hne : s ≠ [] := List.length_pos_iff.1 hpos
  have he : s.isEmpty = false := by simpa using hne
  have hq : qnum s = inBs (8 : Int) 0 (s) := by
    unfold qnum; rw [if_neg hne, if_neg, at0 hpos, if_pos (by rw [eq48 e0])]
    rintro ⟨_, _, h | h⟩
    · rw [List.getElem?_eq_getElem (by omega)] at h; injection h with h; rw [h] at e1; revert e1; decide
    · rw [List.getElem?_eq_getElem (by omega)] at h; injection h with h; rw [h] at e2; revert e2; decide
  have Hq := Lib.hid hq
  clear hq hne
  go_enter Tryd.func119, Tryd.ntmps119
  go_wp2_with fail
  refine (inbase_any (s) 8 _ (by omega) (by omega)).mono ?_
  rintro e w' ⟨rfl, rfl⟩
  have HQ : Hid (qnum s = inBs ((8 : Nat) : Int) 0 (s)) := Lib.hid Hq.out
  generalize inBs ((8 : Nat) : Int) 0 (s) = o at *
  cases o with
  | none =>
    unfold inV
    go_wp2
    go_ret2
    exact ⟨inn HQ.out, rfl⟩
  | some n =>
    unfold inV
    go_wp2
    go_ret2
    exact ⟨ins HQ.out, rfl⟩

set_option maxRecDepth 100000 in
theorem qnumber_any (s : List UInt8) (w : World) (hl : s.length ≤ 1000000000) : Calls Tryd.prog 119 #[.string ⟨s.toArray⟩] w fun e w' => e = .returned (inV (qnum s)) ∧ w = w' := by
  rcases Nat.eq_zero_or_pos s.length with h0 | hpos
  · have : s = [] := List.eq_nil_of_length_eq_zero h0
    subst this
    go_enter Tryd.func119, Tryd.ntmps119
    go_wp2
    go_ret2
    exact ⟨rfl, rfl⟩
  · by_cases i2 : (2 : Int) < (s.length : Int)
    · cases e0 : ((s[0].toNat : Int) == 48)
      · exact qn_c s w hl hpos i2 e0
      · cases e1 : (((s[1]'(by omega)).toNat : Int) == 120)
        · cases e2 : (((s[1]'(by omega)).toNat : Int) == 88)
          · exact qn_f s w hl hpos i2 e0 e1 e2
          · exact qn_e s w hl hpos i2 e0 e1 e2
        · exact qn_d s w hl hpos i2 e0 e1
    · cases e0 : ((s[0].toNat : Int) == 48)
      · exact qn_b s w hl hpos i2 e0
      · exact qn_a s w hl hpos i2 e0
end Go.Proofs.YtbffkddlkfefoaaDoor

/- The contracts of quad.numbers and quad.Loose. -/
namespace Go.Proofs.YtbffkddlkfefoaaDoor
open Go.RowKit
attribute [local go_sem] ba_get ext_take ext_drop ext_any ba_app

theorem inBs_bd {b : Int} (hb : 0 ≤ b) (l : List UInt8) : ∀ (n m : Int), 0 ≤ n → n ≤ 4294967296 → inBs b n l = some m → 0 ≤ m ∧ m ≤ 4294967296 := by
  induction l with
  | nil => intro n m h0 h1 h; injection h with h; omega
  | cons c l ih =>
    intro n m h0 h1 h
    rw [inBs] at h
    cases hh : hex (c.toNat : Int) with
    | none => rw [hh] at h; cases h
    | some d =>
      have hd := hex_bd hh
      rw [hh] at h
      simp only at h
      split at h
      · cases h
      · have : 0 ≤ n * b := Int.mul_nonneg h0 hb
        exact ih _ m (by omega) (by omega) h
theorem qnum_bd {s : List UInt8} {n : Int} (h : qnum s = some n) : 0 ≤ n ∧ n ≤ 4294967296 := by
  unfold qnum at h
  split at h
  · cases h
  · split at h
    · exact inBs_bd (by omega) _ 0 n (by omega) (by omega) h
    · split at h <;> exact inBs_bd (by omega) _ 0 n (by omega) (by omega) h
theorem spB_step (r : List UInt8) : spB 46 [] r = hdB 46 r :: (if hasB 46 r = true then spB 46 [] (tlB 46 r) else []) := by
  cases h : hasB 46 r with
  | true => rw [spB_has h]; rfl
  | false => rw [spB_not h, (split_not h).1]; rfl
theorem mapM_snoc {P : List (List UInt8)} {D : List Int} {x : List UInt8} {n : Int} (h : P.mapM qnum = some D) (hx : qnum x = some n) : (P ++ [x]).mapM qnum = some (D ++ [n]) := by
  rw [List.mapM_append, h]
  simp [hx]
theorem mapM_bad {P Q : List (List UInt8)} {D : List Int} {x : List UInt8} (h : P.mapM qnum = some D) (hx : qnum x = none) : (P ++ x :: Q).mapM qnum = none := by
  rw [List.mapM_append, h]
  simp [hx]
theorem mapM_len {P : List (List UInt8)} : ∀ {D : List Int}, P.mapM qnum = some D → P.length = D.length := by
  induction P with
  | nil => intro D h; simp at h; subst h; rfl
  | cons x P ih =>
    intro D h
    simp only [List.mapM_cons, Option.bind_eq_bind, Option.pure_def] at h
    cases hx : qnum x with
    | none => simp [hx] at h
    | some n =>
      cases hp : P.mapM qnum with
      | none => simp [hx, hp] at h
      | some E =>
        simp [hx, hp] at h
        subst h
        simp [ih hp]
theorem mapM_bd {P : List (List UInt8)} : ∀ {D : List Int}, P.mapM qnum = some D → ∀ n ∈ D, 0 ≤ n ∧ n ≤ 4294967296 := by
  induction P with
  | nil => intro D h; simp at h; subst h; intro n hn; cases hn
  | cons x P ih =>
    intro D h
    simp only [List.mapM_cons, Option.bind_eq_bind, Option.pure_def] at h
    cases hx : qnum x with
    | none => simp [hx] at h
    | some n =>
      cases hp : P.mapM qnum with
      | none => simp [hx, hp] at h
      | some E =>
        simp [hx, hp] at h
        subst h
        intro m hm
        rcases List.mem_cons.1 hm with rfl | hm
        · exact qnum_bd hx
        · exact ih hp m hm
def NumsPost (w : World) (s : List UInt8) (e : Ending) (w' : World) : Prop :=
  (qnums s = none ∧ e = .returned (.tuple #[.slice none 0 0, .bool false]) ∨ ∃ D v, qnums s = some D ∧ e = .returned (.tuple #[v, .bool true]) ∧ Sl w' 1 v D.length (D.map (Value.int .i64))) ∧ Below w.heap.size w w'
def NumsRel (w : World) (s r : List UInt8) (more : Bool) (v : Value) (wr : World) : Prop :=
  ∃ (P : List (List UInt8)) (D : List Int), spB 46 [] s = P ++ (if more = true then spB 46 [] r else []) ∧ P.mapM qnum = some D ∧ D.length ≤ 4 ∧ r.length ≤ s.length ∧ wr.ownsRow w.heap.size 3 1 v D.length (D.map (Value.int .i64)) ∧ Below w.heap.size w wr
theorem qnums_bad {s : List UInt8} {P Q : List (List UInt8)} {D : List Int} {x : List UInt8} (h : spB 46 [] s = P ++ x :: Q) (hD : P.mapM qnum = some D) (hx : qnum x = none) : qnums s = none := by
  unfold qnums
  rw [h, mapM_bad hD hx]
  split <;> rfl
theorem qnums_many {s : List UInt8} {P Q : List (List UInt8)} {D : List Int} {x : List UInt8} (h : spB 46 [] s = P ++ x :: Q) (hD : P.mapM qnum = some D) (hx : 4 ≤ D.length) : qnums s = none := by
  unfold qnums
  rw [h, if_neg]
  have := mapM_len hD
  simp
  omega
theorem qnums_done {s : List UInt8} {P : List (List UInt8)} {D : List Int} (h : spB 46 [] s = P) (hD : P.mapM qnum = some D) (hx : D.length ≤ 4) : qnums s = some D := by
  unfold qnums
  rw [h, if_pos (by have := mapM_len hD; omega), hD]

set_option maxRecDepth 100000 in
set_option maxHeartbeats 1000000 in
theorem numbers_any (s : List UInt8) (w : World) (hl : s.length ≤ 1000000000) : Calls Tryd.prog 63 #[.string ⟨s.toArray⟩] w (NumsPost w s) := by
  go_enter Tryd.func63, Tryd.ntmps63
  go_wp2
  go_loopw [0, 4, 5] (fun rv v m wr => ∃ (r : List UInt8) (more : Bool), rv = .string ⟨r.toArray⟩ ∧ m = .bool more ∧ NumsRel w s r more v wr) (fun rv _ m _ => if boolOf m = true then strLen rv + 1 else 0)
  case atStart => exact ⟨s, true, rfl, rfl, [], [], rfl, rfl, by simp, Nat.le_refl _, World.ownsRow_nil _ _ _ _, Below.refl _ _⟩
  case round =>
    obtain ⟨r, more, rfl, rfl, P, D, h1, h2, h3, h4, h5, h6⟩ := hrel
    have H1 := Lib.hid h1
    have H2 := Lib.hid h2
    have hsz := h6.size
    clear h1 h2
    cases more with
    | false =>
      have hq : qnums s = some D := qnums_done (by rw [H1.out]; simp) H2.out h3
      have hsl := Sl.own h5
      have Hq := Lib.hid hq
      have Hsl := Lib.hid hsl
      clear hq hsl
      go_wp2
      go_ret2
      exact ⟨.inr ⟨D, _, Hq.out, rfl, Hsl.out⟩, h6⟩
    | true =>
      have hst : spB 46 [] s = P ++ hdB 46 r :: (if hasB 46 r = true then spB 46 [] (tlB 46 r) else []) := by rw [H1.out, if_pos rfl, spB_step]
      have Hst := Lib.hid hst
      have q1 := hdB_len 46 r
      have q2 := tlB_len 46 r
      have q3 : hasB 46 r = true → (tlB 46 r).length < r.length := fun h => by have := congrArg List.length (split_has h); rw [List.length_append, List.length_cons] at this; omega
      have Q3 := Lib.hid q3
      clear hst q3
      cases hn : qnum (hdB 46 r) with
      | none =>
        have hq := qnums_bad Hst.out H2.out hn
        have Hq := Lib.hid hq
        have Hn := Lib.hid hn
        clear hq hn
        go_wp2_with (first
          | (go_at_call 61; refine (cut_any 46 _ _ (by omega)).mono ?_; rintro ed w4 ⟨rfl, hb4⟩; rw [cutV_eq])
          | (go_at_call 119; refine (qnumber_any _ _ (by omega)).mono ?_; rintro ed w5 ⟨rfl, rfl⟩; rw [Hn.out]; unfold inV))
        go_ret2
        exact ⟨.inl ⟨Hq.out, rfl⟩, bel_tr h6 hb4⟩
      | some n =>
        have hnb := qnum_bd hn
        have Hn := Lib.hid hn
        by_cases hD4 : D.length = 4
        · have hq := qnums_many Hst.out H2.out (by omega)
          have Hq := Lib.hid hq
          have j4 : ((D.length : Int) == 4) = true := by simp [hD4]
          clear hq hn hD4
          obtain ⟨A9, c9, hv9, _⟩ := (Sl.own h5).any
          subst hv9
          go_wp2_with (first
            | (go_at_call 61; refine (cut_any 46 _ _ (by omega)).mono ?_; rintro ed w4 ⟨rfl, hb4⟩; rw [cutV_eq])
            | (go_at_call 119; refine (qnumber_any _ _ (by omega)).mono ?_; rintro ed w5 ⟨rfl, rfl⟩; rw [Hn.out]; unfold inV))
          go_ret2
          exact ⟨.inl ⟨Hq.out, rfl⟩, bel_tr h6 hb4⟩
        · have j4 : ((D.length : Int) == 4) = false := by simp; omega
          clear hn
          obtain ⟨A9, c9, hv9, _⟩ := (Sl.own h5).any
          subst hv9
          generalize hm : hasB 46 r = more2 at *
          have Hm := Lib.hid hm
          clear hm
          go_wp2_with (first
            | (go_at_call 61; refine (cut_any 46 _ _ (by omega)).mono ?_; rintro ed w4 ⟨rfl, hb4⟩; rw [cutV_eq, Hm.out]; have h54 := own_below h5 hb4; have hsz4 := hb4.size)
            | (go_at_call 119; refine (qnumber_any _ _ (by omega)).mono ?_; rintro ed w5 ⟨rfl, rfl⟩; rw [Hn.out]; unfold inV)
            | (at_builtin; refine wpList_appLit rfl _ _ _ rfl elt_ints rfl h54 [.int .i64 n] (m := 1) rfl rfl (by simp [Value.oneCell']) (by omega) (by omega) (by omega) ?_; intro v1 w6 ho6 hb6 _))
          have R : NumsRel w s (tlB 46 r) more2 v1 w6 := ⟨P ++ [hdB 46 r], D ++ [n], by rw [Hst.out]; simp, mapM_snoc H2.out Hn.out, by simp; omega, by omega, by simpa using ho6, (bel_tr h6 hb4).trans hb6⟩
          go_roundw
          case rel => exact ⟨_, _, rfl, rfl, R⟩
          case measure =>
            simp only [strLen_mk, boolOf]
            cases more2 with
            | true => have := Q3.out rfl; simp; omega
            | false => simp
end Go.Proofs.YtbffkddlkfefoaaDoor

/- The contract of quad.Loose. -/
namespace Go.Proofs.YtbffkddlkfefoaaDoor
open Go.RowKit
attribute [local go_sem] ba_get ext_take ext_drop ext_any ba_app

theorem numbers_none (s : List UInt8) (w : World) (hl : s.length ≤ 1000000000) (h : qnums s = none) : Calls Tryd.prog 63 #[.string ⟨s.toArray⟩] w fun e w' => e = .returned (.tuple #[.slice none 0 0, .bool false]) ∧ Below w.heap.size w w' :=
  (numbers_any s w hl).mono fun _ _ ⟨h1, h2⟩ => by
    rcases h1 with ⟨_, h1⟩ | ⟨D, v, h1, _⟩
    · exact ⟨h1, h2⟩
    · rw [h] at h1; cases h1
theorem numbers_some (s : List UInt8) (w : World) (hl : s.length ≤ 1000000000) {D : List Int} (h : qnums s = some D) : Calls Tryd.prog 63 #[.string ⟨s.toArray⟩] w fun e w' => ∃ v, e = .returned (.tuple #[v, .bool true]) ∧ Sl w' 1 v D.length (D.map (Value.int .i64)) ∧ Below w.heap.size w w' :=
  (numbers_any s w hl).mono fun _ _ ⟨h1, h2⟩ => by
    rcases h1 with ⟨h1, _⟩ | ⟨E, v, h1, h3, h4⟩
    · rw [h] at h1; cases h1
    · rw [h] at h1; injection h1 with h1; subst h1; exact ⟨v, h3, h4, h2⟩
theorem qnums_pos {s : List UInt8} {D : List Int} (h : qnums s = some D) : 1 ≤ D.length ∧ D.length ≤ 4 ∧ ∀ n ∈ D, 0 ≤ n ∧ n ≤ 4294967296 := by
  unfold qnums at h
  split at h
  · next h4 =>
    have h1 := mapM_len h
    have h2 := List.length_pos_iff.2 (spB_ne 46 s [])
    exact ⟨by omega, by omega, mapM_bd h⟩
  · cases h
def LoPost (w : World) (s : List UInt8) (e : Ending) (w' : World) : Prop := e = .returned (adS (loose s)) ∧ Below w.heap.size w w'
theorem LoPost.no {w w' : World} {s : List UInt8} {c : Int} (h : loose s = .inl c) (hb : Below w.heap.size w w') : LoPost w s (.returned (.tuple #[.agg (adA ad0), .int .i64 c])) w' := ⟨by rw [h]; rfl, hb⟩
theorem LoPost.yes {w w' : World} {s : List UInt8} {x : Ad} (h : loose s = .inr x) (hb : Below w.heap.size w w') : LoPost w s (.returned (.tuple #[.agg (adA x), .int .i64 0])) w' := ⟨by rw [h]; rfl, hb⟩
theorem loose_some {s : List UInt8} {D : List Int} {m : Nat} (h : qnums s = some D) (hm : D.length = m + 1) : loose s = if (D.take m).all (fun n => decide (n ≤ 255)) = true then (if D.getD m 0 < 256 ^ (4 - m) then .inr (qtail m (D.getD m 0) (4 - m) (qahead D m)) else .inl 4) else .inl 4 := by
  unfold loose
  rw [h]
  simp only [hm, Nat.add_sub_cancel]
def LoC (D : List Int) (b1 o1 : Nat) (wr : World) : Prop := ∀ (j : Nat) (hj : j < D.length), wr.cell? ⟨b1, o1 + j, none⟩ = some (.int .i64 D[j])
theorem LoC.stays {D : List Int} {b1 o1 g : Nat} {w w' : World} (h : LoC D b1 o1 w) (hs : Stays g w w') (hne : b1 ≠ g) : LoC D b1 o1 w' := fun j hj => (World.cell?_of_block (hs.block b1 hne)).trans (h j hj)
def LoRel (w : World) (D : List Int) (b1 o1 g2 g6 k : Nat) (wr : World) : Prop :=
  LoC D b1 o1 wr ∧ Bk wr g2 24 (adA ad0) ∧ Bk wr g6 24 (adA (qahead D k)) ∧ (D.take k).all (fun n => decide (n ≤ 255)) = true ∧ Below w.heap.size w wr
theorem take_all_next {D : List Int} {k : Nat} (hk : k < D.length) (h1 : (D.take k).all (fun n => decide (n ≤ 255)) = true) (h2 : D[k] ≤ 255) : (D.take (k + 1)).all (fun n => decide (n ≤ 255)) = true := by
  rw [List.take_succ_eq_append_getElem hk, List.all_append, h1]
  simp [h2]
theorem take_all_bad {D : List Int} {k m : Nat} (hk : k < m) (hm : m < D.length) (h2 : ¬ D[k]'(by omega) ≤ 255) : ¬ (D.take m).all (fun n => decide (n ≤ 255)) = true := by
  intro h
  rw [List.all_eq_true] at h
  have := h (D[k]'(by omega)) (List.mem_iff_getElem.2 ⟨k, by rw [List.length_take]; omega, by rw [List.getElem_take]⟩)
  exact h2 (by simpa using this)

theorem shl_at {k : Nat} (h : k ≤ 3) : wrap64 (2 ^ (8 * (4 - k))) = 256 ^ (4 - k) := by
  rcases (show k = 0 ∨ k = 1 ∨ k = 2 ∨ k = 3 by omega) with rfl | rfl | rfl | rfl <;> decide +kernel
def QtRel (w : World) (s : List UInt8) (m g2 g6 : Nat) (nv iv : Value) (wr : World) : Prop :=
  ∃ (k : Nat) (n : Int) (a : Ad), m + k ≤ 4 ∧ 0 ≤ n ∧ n ≤ 4294967296 ∧ nv = .int .i64 n ∧ iv = .int .i64 ((m : Int) + (k : Int) - 1) ∧ loose s = .inr (qtail m n k a) ∧ Bk wr g2 24 (adA ad0) ∧ Bk wr g6 24 (adA a) ∧ Below w.heap.size w wr
set_option maxRecDepth 100000 in
set_option maxHeartbeats 1000000 in
theorem loose_any (s : List UInt8) (w : World) (hl : s.length ≤ 1000000000) : Calls Tryd.prog 16 #[.string ⟨s.toArray⟩] w (LoPost w s) := by
  cases hq : qnums s with
  | none =>
    have hlo : loose s = .inl 5 := by unfold loose; rw [hq]
    have Hlo := Lib.hid hlo
    have Hq := Lib.hid hq
    clear hq hlo
    go_enter Tryd.func16, Tryd.ntmps16
    go_wp2_with (first
      | ((with_reducible refine wpList_allocAd (o := ⟨some 2, _, _, _, _, _⟩) rfl rfl ?_); intro g2 w1 hg hB2 hb1 hs; have hg2 : w.heap.size ≤ g2 := Nat.le_of_eq hg.symm; clear hg hs)
      | (go_at_call 63; refine (numbers_none s _ hl Hq.out).mono ?_; rintro e w2 ⟨rfl, hb2⟩; have hB22 := hB2.bel hb2)
      | (with_reducible refine wpList_buildL rfl 24 _ rfl built_0 rfl ?_)
      | ((with_reducible refine wpList_storeAd rfl _ _ rfl rfl rfl hB22 ?_); intro w3 hB3 hS3))
    exact ret_adE Tryd.results16 rfl rfl hB3 rfl (LoPost.no Hlo.out ((bel_tr hb1 hb2).trans (hS3.below hg2)))
  | some D =>
    obtain ⟨hd1, hd4, hdb⟩ := qnums_pos hq
    obtain ⟨m, hm⟩ : ∃ m, D.length = m + 1 := ⟨D.length - 1, by omega⟩
    have hlo := loose_some hq hm
    have Hlo := Lib.hid hlo
    have Hq := Lib.hid hq
    have Hdb := Lib.hid hdb
    have Hm := Lib.hid hm
    have hm3 : m ≤ 3 := by omega
    clear hlo hq hdb hd1 hd4
    go_enter Tryd.func16, Tryd.ntmps16
    go_wp2_with (first
      | ((with_reducible refine wpList_allocAd (o := ⟨some 2, _, _, _, _, _⟩) rfl rfl ?_); intro g2 w1 hg hB2 hb1 hs; have hg2 : w.heap.size ≤ g2 := Nat.le_of_eq hg.symm; clear hg hs)
      | (go_at_call 63; refine (numbers_some s _ hl Hq.out).mono ?_; rintro e w2 ⟨v, rfl, hsl, hb2⟩; have hB22 := hB2.bel hb2; rw [Hm.out] at hsl
         obtain ⟨b1, o1, c1, rfl, hc1, hb1', hcD⟩ := hsl.pos (by omega)
         have HcD := Lib.hid hcD
         clear hcD hsl)
      | (with_reducible refine wpList_buildL rfl 24 _ rfl built_4 rfl ?_)
      | ((with_reducible refine wpList_allocAd (o := ⟨some 6, _, _, _, _, _⟩) rfl rfl ?_); intro g6 w3 hg hB6 hb3 hs; have hg6 : w2.heap.size ≤ g6 := Nat.le_of_eq hg.symm; clear hg hs)
      | ((with_reducible refine wpList_storeAd rfl _ _ rfl rfl rfl hB6 ?_); intro w4 hB6' hS4))
    have hg26 : g2 < g6 := by have := hB22.lt; omega
    have hb14 : b1 < w4.heap.size := by have := hb3.size; have := hS4.size; omega
    have hne6 : b1 ≠ g6 := by omega
    have hC2 : LoC D b1 o1 w2 := fun j hj => sl_at HcD.out hj
    have hC4 : LoC D b1 o1 w4 := LoC.stays (g := g6) (fun j hj => (bel_cells hb3 hb1' (o1 + j)).trans (hC2 j hj)) hS4 hne6
    have R0 : LoRel w D b1 o1 g2 g6 0 w4 := ⟨hC4, (hB22.bel hb3).stays hS4 (by omega), hB6', rfl, ((bel_tr hb1 hb2).trans (hb3.mono (by have := (bel_tr hb1 hb2).size; omega))).trans (hS4.below (by omega))⟩
    have hg6w : w.heap.size ≤ g6 := by omega
    clear hB2 hB22 hB6 hB6' hS4 hb1 hb2 hb3 hC2 hC4 HcD hb1'
    go_loopw [28] (fun i wr => ∃ k : Nat, k ≤ m ∧ i = .int .i64 k ∧ LoRel w D b1 o1 g2 g6 k wr) (fun i _ => m - (intOf i).toNat)
    case atStart => exact ⟨0, Nat.zero_le _, rfl, R0⟩
    case round =>
      obtain ⟨k, hk, rfl, r0, r1, r2, r3, r4⟩ := hrel
      clear R0
      by_cases hlt : k < m
      · have j1 : (k : Int) < (m : Int) := by omega
        have hkD : k < D.length := by rw [Hm.out]; omega
        have q1 := r0 k hkD
        have hnb := Hdb.out D[k] (List.getElem_mem _)
        have hgd : D.getD k 0 = D[k] := by rw [List.getD_eq_getElem?_getD, List.getElem?_eq_getElem hkD]; rfl
        have Hgd := Lib.hid hgd
        have R0 := Lib.hid r0
        have R3 := Lib.hid r3
        clear hgd r0 r3
        by_cases hn : D[k] ≤ 255
        · have hnx := take_all_next hkD R3.out hn
          have Hnx := Lib.hid hnx
          clear hnx
          have hu : (UInt8.ofNat (D.getD k 0).toNat).toNat = D[k].toNat := by rw [Hgd.out]; exact UInt8.toNat_ofNat_of_lt' (by show D[k].toNat < 256; omega)
          have Hu := Lib.hid hu
          have Hset := Lib.hid (adA_setB (qahead D k) (show k < 16 by omega) (UInt8.ofNat (D.getD k 0).toNat))
          clear hu
          have q4 := r2.cell (1 + k)
          rw [Nat.add_comm 1 k, adA_ip _ (by omega), Nat.add_comm k 1] at q4
          have f4 := r2.free (1 + k)
          generalize hn0 : D[k] = n at *
          have Hn0 := Lib.hid hn0
          clear hn0
          go_wp2
          go_roundw
          case rel =>
            refine ⟨k + 1, by omega, by go_num, R0.out.stays (Stays.cell _ _ _ _) hne6, r1.far (by show g2 ≠ g6; omega) _, ?_, Hnx.out, r4.setCell (show w.heap.size ≤ g6 by omega) _⟩
            have := r2.set_ (1 + k) (.int .u8 n)
            have e : (((UInt8.ofNat (D.getD k 0).toNat).toNat : Nat) : Int) = n := by rw [Hu.out]; omega
            rw [Nat.add_comm 1 k, ← e, Hset.out] at this
            rw [Nat.add_comm 1 k, ← e]
            exact this
          case measure => simp [intOf]; omega
        · have hbad : loose s = .inl 4 := by rw [Hlo.out, if_neg (take_all_bad hlt (by rw [Hm.out]; omega) hn)]
          have Hbad := Lib.hid hbad
          clear hbad
          have j2 : 255 < D[k] := by omega
          go_wp2_with (first
            | (with_reducible refine wpList_buildL rfl 24 _ rfl built_0 rfl ?_)
            | ((with_reducible refine wpList_storeAd rfl _ _ rfl rfl rfl r1 ?_); intro w5 hB5 hS5))
          exact ret_adE Tryd.results16 rfl rfl hB5 rfl (LoPost.no Hbad.out (r4.trans (hS5.below hg2)))
      · have hkm : k = m := by omega
        subst hkm
        have j1 : ¬ (k : Int) < (k : Int) := by omega
        have hkD : k < D.length := by rw [Hm.out]; omega
        have q1 := r0 k hkD
        have hnb := Hdb.out D[k] (List.getElem_mem _)
        have hgd : D.getD k 0 = D[k] := by rw [List.getD_eq_getElem?_getD, List.getElem?_eq_getElem hkD]; rfl
        have hlo2 : loose s = if D[k] < 256 ^ (4 - k) then .inr (qtail k D[k] (4 - k) (qahead D k)) else .inl 4 := by rw [Hlo.out, if_pos r3, hgd]
        have Hlo2 := Lib.hid hlo2
        clear hgd hlo2 r0 r3 Hlo Hdb Hq
        generalize D[k] = n at *
        generalize qahead D k = A0 at *
        have i0 : (0 : Int) ≤ (k : Int) := by omega
        have hT := shl_at hm3
        have HT := Lib.hid hT
        obtain ⟨T, hTe⟩ : ∃ T : Int, T = 256 ^ (4 - k) := ⟨_, rfl⟩
        rw [← hTe] at hT Hlo2
        clear hTe HT
        by_cases hnT : n < T
        · have hyes : loose s = .inr (qtail k n (4 - k) A0) := by rw [Hlo2.out, if_pos hnT]
          have Hyes := Lib.hid hyes
          have j3 : ¬ T ≤ n := by omega
          clear hyes hnT
          go_wp2
          go_loopw [10, 11] (fun nv iv wz => QtRel w s k g2 g6 nv iv wz) (fun _ i _ => (intOf i - (k : Int) + 1).toNat)
          case atStart => exact ⟨4 - k, n, A0, by omega, hnb.1, hnb.2, rfl, by congr 1; omega, Hyes.out, r1, r2, r4⟩
          case round =>
            obtain ⟨k2, n2, a2, hk2, hn1, hn2, rfl, rfl, hlo3, s1, s2, s4⟩ := hrel
            have Hlo3 := Lib.hid hlo3
            clear hlo3 hT r1 r2 r4 q1
            rcases Nat.eq_zero_or_pos k2 with h0 | h0
            · have j4 : ¬ (k : Int) ≤ (k : Int) + (k2 : Int) - 1 := by omega
              have hfin : loose s = .inr a2 := by rw [Hlo3.out, h0]; rfl
              have Hfin := Lib.hid hfin
              clear hfin h0
              go_wp2_with (first
                | (with_reducible refine wpList_loadAd rfl _ rfl rfl s2 ?_)
                | ((with_reducible refine wpList_storeAd rfl _ _ rfl rfl rfl s1 ?_); intro w5 hB5 hS5))
              exact ret_adE Tryd.results16 rfl rfl hB5 rfl (LoPost.yes Hfin.out (s4.trans (hS5.below hg2)))
            · obtain ⟨k3, rfl⟩ : ∃ k3, k2 = k3 + 1 := ⟨k2 - 1, by omega⟩
              have hnx : loose s = .inr (qtail k (n2 / 256) k3 (a2.setB (k + k3) (UInt8.ofNat (n2 % 256).toNat))) := by rw [Hlo3.out]; rfl
              have Hnx := Lib.hid hnx
              have hu : (((UInt8.ofNat (n2 % 256).toNat).toNat : Nat) : Int) = n2 % 256 := by
                rw [UInt8.toNat_ofNat_of_lt' (show (n2 % 256).toNat < 256 by omega)]; omega
              have Hu := Lib.hid hu
              have Hset := Lib.hid (adA_setB a2 (show k + k3 < 16 by omega) (UInt8.ofNat (n2 % 256).toNat))
              have q4 := s2.cell (1 + (k + k3))
              rw [Nat.add_comm 1 (k + k3), adA_ip _ (by omega), Nat.add_comm (k + k3) 1] at q4
              have f4 := s2.free (1 + (k + k3))
              have j4 : (k : Int) ≤ (k : Int) + ((k3 + 1 : Nat) : Int) - 1 := by omega
              have j5 : ((k : Int) + ((k3 + 1 : Nat) : Int) - 1) = ((k + k3 : Nat) : Int) := by omega
              rw [j5] at j4 ⊢
              have j6 : ((k + k3 : Nat) : Int) < 16 := by omega
              clear hnx hu j5 h0
              go_wp2
              go_roundw
              case rel =>
                refine ⟨k3, n2 / 256, _, by omega, by omega, by omega, rfl, by first | rfl | (congr 1; omega), Hnx.out, s1.far (by show g2 ≠ g6; omega) _, ?_, s4.setCell (show w.heap.size ≤ g6 by omega) _⟩
                have := s2.set_ (1 + (k + k3)) (.int .u8 (((UInt8.ofNat (n2 % 256).toNat).toNat : Nat) : Int))
                rw [Nat.add_comm 1 (k + k3), Hset.out, Hu.out] at this
                rw [Nat.add_comm 1 (k + k3)]
                exact this
              case measure => simp [intOf]; omega
        · have hno : loose s = .inl 4 := by rw [Hlo2.out, if_neg hnT]
          have Hno := Lib.hid hno
          have j3 : T ≤ n := by omega
          clear hno hnT
          go_wp2_with (first
            | (with_reducible refine wpList_buildL rfl 24 _ rfl built_0 rfl ?_)
            | ((with_reducible refine wpList_storeAd rfl _ _ rfl rfl rfl r1 ?_); intro w5 hB5 hS5))
          exact ret_adE Tryd.results16 rfl rfl hB5 rfl (LoPost.no Hno.out (r4.trans (hS5.below hg2)))
end Go.Proofs.YtbffkddlkfefoaaDoor

/- The walk of QuadBack. -/
namespace Go.Proofs.YtbffkddlkfefoaaDoor
open Go.RowKit
attribute [local go_sem] ba_get ext_take ext_drop ext_any ba_app

theorem w7l : loose [49, 50, 55, 46, 49] = .inr (adOf 127 0 0 1) := by decide +kernel
theorem w7p : qpA [49, 50, 55, 46, 49] = none := by decide +kernel
end Go.Proofs.YtbffkddlkfefoaaDoor

/- Addresses of Inet6 in writing, in plain words: groups, rows of noughts, texts. No walk here. -/
namespace Go.Proofs.YtbffkddlkfefoaaDoor
open Go.RowKit

/-- a group of an address. -/
def grp (a : Ad) (i : Nat) : Nat := 256 * (a.b (2 * i)).toNat + (a.b (2 * i + 1)).toNat
theorem grp_lt (a : Ad) (i : Nat) : grp a i < 65536 := by
  have h0 := (a.b (2 * i)).toNat_lt
  have h1 := (a.b (2 * i + 1)).toNat_lt
  unfold grp
  omega
/-- are n groups from f on 0? -/
def emp (a : Ad) (f n : Nat) : Bool := (List.range n).all (fun j => decide (grp a (f + j) = 0))
theorem emp_next {a : Ad} {f k : Nat} (h : emp a f k = true) (h2 : grp a (f + k) = 0) : emp a f (k + 1) = true := by
  unfold emp at h ⊢
  rw [List.range_succ, List.all_append, h]
  simp [h2]
theorem emp_bad {a : Ad} {f k n : Nat} (hk : k < n) (h2 : grp a (f + k) ≠ 0) : emp a f n = false := by
  unfold emp
  rw [Bool.eq_false_iff]
  intro h
  have := List.all_eq_true.1 h k (by simpa using hk)
  simp [h2] at this
def findF (a : Ad) (n : Nat) : Nat → Nat → Option Nat
  | 0, _ => none
  | k + 1, f => if emp a f n = true then some f else findF a n k (f + 1)
def rowN (a : Ad) : Nat → Nat × Nat
  | 0 => (8, 0)
  | 1 => (8, 0)
  | n + 2 => match findF a (n + 2) (9 - (n + 2)) 0 with
    | some f => (f, n + 2)
    | none => rowN a (n + 1)
/-- the longest row of at least two groups 0, the first one of it. -/
def rowR (a : Ad) : Nat × Nat := rowN a 8
def rowI (a : Ad) (n f : Nat) : Nat × Nat := match findF a n (9 - n - f) f with
  | some f => (f, n)
  | none => rowN a (n - 1)
theorem rowN_I {a : Ad} {n : Nat} (h : 2 ≤ n) : rowN a n = rowI a n 0 := by
  obtain ⟨m, rfl⟩ : ∃ m, n = m + 2 := ⟨n - 2, by omega⟩
  unfold rowI
  rw [rowN]
  rfl
theorem rowI_hit {a : Ad} {n f : Nat} (h : f + n ≤ 8) (he : emp a f n = true) : rowI a n f = (f, n) := by
  unfold rowI
  rw [show 9 - n - f = (8 - n - f) + 1 by omega, findF, if_pos he]
theorem rowI_miss {a : Ad} {n f : Nat} (h : f + n ≤ 8) (he : emp a f n = false) : rowI a n f = rowI a n (f + 1) := by
  unfold rowI
  rw [show 9 - n - f = (8 - n - f) + 1 by omega, findF, if_neg (by rw [he]; simp), show 8 - n - f = 9 - n - (f + 1) by omega]
theorem rowI_end {a : Ad} {n f : Nat} (h : ¬ f + n ≤ 8) : rowI a n f = rowN a (n - 1) := by
  unfold rowI
  rw [show 9 - n - f = 0 by omega, findF]
theorem rowN_small {a : Ad} {n : Nat} (h : n < 2) : rowN a n = (8, 0) := by
  match n, h with
  | 0, _ => rfl
  | 1, _ => rfl
theorem findF_bd {a : Ad} {n : Nat} : ∀ {k f f' : Nat}, findF a n k f = some f' → f ≤ f' ∧ f' < f + k ∧ emp a f' n = true := by
  intro k
  induction k with
  | zero => intro f f' h; cases h
  | succ k ih =>
    intro f f' h
    rw [findF] at h
    split at h
    · next he => injection h with h; subst h; exact ⟨Nat.le_refl _, by omega, he⟩
    · obtain ⟨h1, h2, h3⟩ := ih h; exact ⟨by omega, by omega, h3⟩
theorem rowN_bd (a : Ad) : ∀ n, n ≤ 8 → ((rowN a n).1 + (rowN a n).2 ≤ 8 ∧ ((rowN a n).2 = 0 ∧ (rowN a n).1 = 8 ∨ 2 ≤ (rowN a n).2)) := by
  intro n
  induction n with
  | zero => intro _; simp [rowN]
  | succ n ih =>
    intro hn
    rcases n with _ | n
    · simp [rowN]
    · rw [rowN]
      cases hf : findF a (n + 2) (9 - (n + 2)) 0 with
      | some f =>
        have := findF_bd hf
        simp only
        omega
      | none => exact ih (by omega)
theorem rowR_bd (a : Ad) : (rowR a).1 + (rowR a).2 ≤ 8 ∧ ((rowR a).2 = 0 ∧ (rowR a).1 = 8 ∨ 2 ≤ (rowR a).2) := rowN_bd a 8 (Nat.le_refl _)

def fig (d : Nat) : UInt8 := UInt8.ofNat (if d < 10 then 48 + d else 87 + d)
/-- the figures of a number below 16^k, none ahead. -/
def hxF : Nat → Nat → List UInt8
  | 0, _ => []
  | k + 1, n => if n = 0 then [] else hxF k (n / 16) ++ [fig (n % 16)]
def hexT (n : Nat) : List UInt8 := if n = 0 then [48] else hxF 4 n
theorem hxF_zero (k : Nat) : hxF k 0 = [] := by cases k <;> rfl
theorem hxF_len (k : Nat) : ∀ n, (hxF k n).length ≤ k := by
  induction k with
  | zero => intro n; simp [hxF]
  | succ k ih =>
    intro n
    rw [hxF]
    split
    · simp
    · have := ih (n / 16); simp; omega
theorem hexT_len (n : Nat) : (hexT n).length ≤ 4 := by
  unfold hexT
  split
  · simp
  · exact hxF_len 4 n
def mapB (a : Ad) : Bool := emp a 0 5 && decide (grp a 5 = 65535)
/-- the text of the first i groups. -/
def txG (a : Ad) (f n : Nat) : Nat → List UInt8
  | 0 => []
  | i + 1 => if f ≤ i ∧ i < f + n then (if i = f then txG a f n i ++ [58, 58] else txG a f n i)
    else (if 0 < i ∧ i ≠ f + n then txG a f n i ++ [58] else txG a f n i) ++ hexT (grp a i)
def ad12 (a : Ad) : Ad := adOf (a.b 12) (a.b 13) (a.b 14) (a.b 15)
def ffff : List UInt8 := [58, 58, 102, 102, 102, 102, 58]
def bareT (a : Ad) : List UInt8 := if mapB a = true then ffff ++ qtx (ad12 a) else txG a (rowR a).1 (rowR a).2 8
/-- an address of Inet6, written. -/
def colT (a : Ad) : List UInt8 := if 0 < a.zone then bareT a ++ 37 :: Lib.itoa a.zone else bareT a
theorem txG_len (a : Ad) (f n : Nat) : ∀ i, (txG a f n i).length ≤ 6 * i := by
  intro i
  induction i with
  | zero => simp [txG]
  | succ i ih =>
    have := hexT_len (grp a i)
    rw [txG]
    split
    · split <;> simp <;> omega
    · split <;> simp <;> omega
end Go.Proofs.YtbffkddlkfefoaaDoor

/- The contracts of the reference's Group, empty, row, hex, Mapped, Text for addresses of Inet6. -/
namespace Go.Proofs.YtbffkddlkfefoaaDoor
open Go.RowKit
attribute [local go_sem] ba_get ext_take ext_drop ext_any ba_app

set_option maxRecDepth 100000 in
set_option maxHeartbeats 1000000 in
theorem rgroup_any (a : Ad) (i : Nat) (w : World) (hi : i < 8) : Calls Tryd.prog 78 #[.agg (adA a), .int .i64 (i : Int)] w fun e w' => e = .returned (.int .i64 (grp a i : Int)) ∧ Below w.heap.size w w' := by
  go_enter Tryd.func78, Tryd.ntmps78
  go_wp2_with (first
    | ((with_reducible refine wpList_boxB rfl _ _ rfl rfl ?_); intro g w1 hg hB hb hs; clear hg hs))
  have c0 := hB.cell (2 * i + 1)
  have c1 := hB.cell (2 * i + 1 + 1)
  rw [adA_ip a (by omega)] at c0 c1
  rw [show 2 * i + 1 = 1 + 2 * i by omega] at c0
  rw [show 2 * i + 1 + 1 = 1 + (2 * i + 1) by omega] at c1
  have x0 := fun x : BelT w1 => x.cell c0
  have x1 := fun x : BelT w1 => x.cell c1
  have l0 := u8lt (a.b (2 * i))
  have l1 := u8lt (a.b (2 * i + 1))
  clear c0 c1
  have t0 : (2 * (i : Int)).toNat = 2 * i := by omega
  have t1 : (2 * (i : Int) + 1).toNat = 2 * i + 1 := by omega
  have j0 : (0 : Int) ≤ 2 * (i : Int) := by omega
  have j1 : 2 * (i : Int) < 16 := by omega
  have j2 : (0 : Int) ≤ 2 * (i : Int) + 1 := by omega
  have j3 : 2 * (i : Int) + 1 < 16 := by omega
  have hfin : (grp a i : Int) = 256 * ((a.b (2 * i)).toNat : Int) + ((a.b (2 * i + 1)).toNat : Int) := by unfold grp; omega
  have Hfin := Lib.hid hfin
  clear hfin
  refine wp_region_bel (by kernel_rfl) (by kernel_rfl) ?_
  repeat (first
    | go_big_quiet_skip
    | (go_big_quiet_want; (go_big_quiet_op; go_big_quiet_on)))
  refine wpQuiet_nil ?_
  rintro _ ⟨x, rfl⟩
  go_wp2
  go_ret
  exact ⟨reti Hfin.out.symm, bel_tr hb x.bel⟩

set_option maxRecDepth 100000 in
set_option maxHeartbeats 1000000 in
theorem rempty_any (a : Ad) (f n : Nat) (w : World) (hfn : f + n ≤ 8) : Calls Tryd.prog 133 #[.agg (adA a), .int .i64 (f : Int), .int .i64 (n : Int)] w fun e w' => e = .returned (.bool (emp a f n)) ∧ Below w.heap.size w w' := by
  go_enter Tryd.func133, Tryd.ntmps133
  go_wp2_with (first
    | ((with_reducible refine wpList_boxB rfl _ _ rfl rfl ?_); intro g w1 hg hB hb hs; have hgw : w.heap.size ≤ g := Nat.le_of_eq hg.symm; clear hg hs))
  go_loopw [7] (fun i wr => ∃ j : Nat, f ≤ j ∧ j ≤ f + n ∧ i = .int .i64 j ∧ emp a f (j - f) = true ∧ Bk wr g 24 (adA a) ∧ Below w.heap.size w wr) (fun i _ => f + n - (intOf i).toNat)
  case atStart => exact ⟨f, Nat.le_refl _, by omega, rfl, by rw [Nat.sub_self]; rfl, hB, hb⟩
  case round =>
    obtain ⟨j, hj1, hj2, rfl, he, r1, r2⟩ := hrel
    have He := Lib.hid he
    clear he hB hb
    by_cases hlt : j < f + n
    · have i1 : (j : Int) < (f : Int) + (n : Int) := by omega
      by_cases hg0 : grp a j = 0
      · have hnx : emp a f (j + 1 - f) = true := by rw [show j + 1 - f = (j - f) + 1 by omega]; exact emp_next He.out (by rw [show f + (j - f) = j by omega]; exact hg0)
        have Hnx := Lib.hid hnx
        have Hg0 := Lib.hid hg0
        clear hnx hg0
        go_wp2_with (first
          | (with_reducible refine wpList_loadAd rfl _ rfl rfl r1 ?_)
          | (go_at_call 78; refine (rgroup_any a j _ (by omega)).mono ?_; rintro e w2 ⟨rfl, hb2⟩; rw [Hg0.out]; have r12 := r1.bel hb2))
        go_roundw
        case rel => exact ⟨j + 1, by omega, by omega, by go_num, Hnx.out, r12, bel_tr r2 hb2⟩
        case measure => simp [intOf]; omega
      · have hbad : emp a f n = false := emp_bad (k := j - f) (by omega) (by rw [show f + (j - f) = j by omega]; exact hg0)
        have Hbad := Lib.hid hbad
        have i2 : ((grp a j : Int) != 0) = true := by simp; omega
        clear hbad hg0
        go_wp2_with (first
          | (with_reducible refine wpList_loadAd rfl _ rfl rfl r1 ?_)
          | (go_at_call 78; refine (rgroup_any a j _ (by omega)).mono ?_; rintro e w2 ⟨rfl, hb2⟩))
        go_ret
        exact ⟨retb Hbad.out.symm, bel_tr r2 hb2⟩
    · have i1 : ¬ (j : Int) < (f : Int) + (n : Int) := by omega
      have hfin : emp a f n = true := by have := He.out; rw [show j - f = n by omega] at this; exact this
      have Hfin := Lib.hid hfin
      clear hfin
      go_wp2
      go_ret
      exact ⟨retb Hfin.out.symm, r2⟩

def RowPost (w : World) (p : Nat × Nat) (e : Ending) (w' : World) : Prop := e = .returned (.tuple #[.int .i64 (p.1 : Int), .int .i64 (p.2 : Int)]) ∧ Below w.heap.size w w'
theorem RowPost.mk {w w' : World} {p : Nat × Nat} {f n : Nat} (h : p = (f, n)) (hb : Below w.heap.size w w') : RowPost w p (.returned (.tuple #[.int .i64 (f : Int), .int .i64 (n : Int)])) w' := ⟨by rw [h], hb⟩
set_option maxRecDepth 100000 in
set_option maxHeartbeats 1000000 in
theorem rrow_any (a : Ad) (w : World) : Calls Tryd.prog 76 #[.agg (adA a)] w (RowPost w (rowR a)) := by
  go_enter Tryd.func76, Tryd.ntmps76
  go_wp2_with (first
    | ((with_reducible refine wpList_boxB rfl _ _ rfl rfl ?_); intro g w1 hg hB hb hs; clear hg hs))
  go_loopw [4] (fun i wr => ∃ n : Nat, n ≤ 8 ∧ 1 ≤ n ∧ i = .int .i64 n ∧ rowR a = rowN a n ∧ Bk wr g 24 (adA a) ∧ Below w.heap.size w wr) (fun i _ => (intOf i).toNat)
  case atStart => exact ⟨8, Nat.le_refl _, by omega, rfl, rfl, hB, hb⟩
  case round =>
    obtain ⟨n, hn, hn1, rfl, he, r1, r2⟩ := hrel
    have He := Lib.hid he
    clear he hB hb
    by_cases h2 : 2 ≤ n
    · have i1 : (2 : Int) ≤ (n : Int) := by omega
      have hI := rowN_I (a := a) h2
      have HI := Lib.hid hI
      clear hI
      go_wp2
      go_loopw [5] (fun i wz => ∃ f : Nat, f ≤ 9 - n ∧ i = .int .i64 f ∧ rowN a n = rowI a n f ∧ Bk wz g 24 (adA a) ∧ Below w.heap.size w wz) (fun i _ => 10 - (intOf i).toNat)
      case atStart => exact ⟨0, Nat.zero_le _, rfl, HI.out, r1, r2⟩
      case round =>
        obtain ⟨f, hf, rfl, hI2, s1, s2⟩ := hrel
        have HI2 := Lib.hid hI2
        clear hI2 r1 r2
        by_cases hfn : f + n ≤ 8
        · have i2 : (f : Int) + (n : Int) ≤ 8 := by omega
          cases hem : emp a f n with
          | true =>
            have hfin : rowR a = (f, n) := by rw [He.out, HI2.out, rowI_hit hfn hem]
            have Hfin := Lib.hid hfin
            have Hem := Lib.hid hem
            clear hfin hem
            go_wp2_with (first
              | (with_reducible refine wpList_loadAd rfl _ rfl rfl s1 ?_)
              | (go_at_call 133; refine (rempty_any a f n _ hfn).mono ?_; rintro e w2 ⟨rfl, hb2⟩; rw [Hem.out]))
            go_ret2
            exact RowPost.mk Hfin.out (bel_tr s2 hb2)
          | false =>
            have hnx : rowN a n = rowI a n (f + 1) := by rw [HI2.out, rowI_miss hfn hem]
            have Hnx := Lib.hid hnx
            have Hem := Lib.hid hem
            clear hnx hem
            go_wp2_with (first
              | (with_reducible refine wpList_loadAd rfl _ rfl rfl s1 ?_)
              | (go_at_call 133; refine (rempty_any a f n _ hfn).mono ?_; rintro e w2 ⟨rfl, hb2⟩; rw [Hem.out]; have s12 := s1.bel hb2))
            go_roundw
            case rel => exact ⟨f + 1, by omega, by go_num, Hnx.out, s12, bel_tr s2 hb2⟩
            case measure => simp [intOf]; omega
        · have i2 : ¬ (f : Int) + (n : Int) ≤ 8 := by omega
          have hnx : rowR a = rowN a (n - 1) := by rw [He.out, HI2.out, rowI_end hfn]
          have Hnx := Lib.hid hnx
          clear hnx
          go_wp2
          go_roundw
          case rel => exact ⟨n - 1, by omega, by omega, by congr 1; omega, Hnx.out, s1, s2⟩
          case measure => simp [intOf]; omega
    · have i1 : ¬ (2 : Int) ≤ (n : Int) := by omega
      have hfin : rowR a = (8, 0) := by rw [He.out, rowN_small (by omega)]
      have Hfin := Lib.hid hfin
      clear hfin
      go_wp2
      go_ret2
      exact RowPost.mk (f := 8) (n := 0) Hfin.out r2

def figL : List UInt8 := [48, 49, 50, 51, 52, 53, 54, 55, 56, 57, 97, 98, 99, 100, 101, 102]
theorem figL_cut {d : Nat} (h : d < 16) : (figL.take (d + 1)).drop d = [fig d] := by
  have : ∀ d : Fin 16, (figL.take (d.val + 1)).drop d.val = [fig d.val] := by decide +kernel
  exact this ⟨d, h⟩
theorem fig_cut {m : Nat} (T : List UInt8) : Value.string ⟨(List.drop (m % 16) (48 :: List.take (m % 16) [49, 50, 51, 52, 53, 54, 55, 56, 57, 97, 98, 99, 100, 101, 102]) ++ T).toArray⟩ = .string ⟨(fig (m % 16) :: T).toArray⟩ := by
  have h : List.drop (m % 16) (48 :: List.take (m % 16) [49, 50, 51, 52, 53, 54, 55, 56, 57, 97, 98, 99, 100, 101, 102]) = [fig (m % 16)] := figL_cut (by omega)
  rw [h]
  rfl
theorem hxF_next {N k m : Nat} {T : List UInt8} (h : hxF 4 N = hxF (k + 1) m ++ T) (hm : 0 < m) : hxF 4 N = hxF k (m / 16) ++ (fig (m % 16) :: T) := by
  rw [h, hxF, if_neg (by omega)]
  simp
set_option maxRecDepth 100000 in
set_option maxHeartbeats 1000000 in
theorem rhex8_any (N : Nat) (w : World) (hN : N < 65536) : Calls Tryd.prog 77 #[.int .i64 (N : Int)] w fun e w' => e = .returned (.string ⟨(hexT N).toArray⟩) ∧ w = w' := by
  go_enter Tryd.func77, Tryd.ntmps77
  go_wp2
  go_loop [0, 3] (fun n s => ∃ (k m : Nat) (T : List UInt8), k ≤ 4 ∧ m < 16 ^ k ∧ n = .int .i64 m ∧ s = .string ⟨T.toArray⟩ ∧ T.length ≤ 4 - k ∧ hxF 4 N = hxF k m ++ T ∧ (T = [] → m = N)) (fun n _ => (intOf n).toNat)
  case atStart => exact ⟨4, N, [], Nat.le_refl _, hN, rfl, rfl, by simp, by simp, fun _ => rfl⟩
  case round =>
    obtain ⟨k, m, T, hk, hm, rfl, rfl, hT, hR, hT0⟩ := hrel
    have HR := Lib.hid hR
    have HT0 := Lib.hid hT0
    have hm16 : m < 65536 := Nat.lt_of_lt_of_le hm (by have := Nat.pow_le_pow_right (show 0 < 16 by omega) hk; omega)
    have Hm := Lib.hid hm
    clear hR hT0 hm
    rcases Nat.eq_zero_or_pos m with h0 | h0
    · subst h0
      by_cases hTe : T = []
      · subst hTe
        have hN0 : hexT N = [48] := by unfold hexT; rw [if_pos (HT0.out rfl).symm]
        have HN0 := Lib.hid hN0
        clear hN0
        go_wp2
        go_ret
        exact ⟨congrArg Ending.returned (vstr HN0.out.symm), rfl⟩
      · have hTi : T.isEmpty = false := by simpa using hTe
        have hN1 : N ≠ 0 := by
          intro e
          have := HR.out
          rw [e, hxF_zero, hxF_zero] at this
          exact hTe this.symm
        have hfin : hexT N = T := by unfold hexT; rw [if_neg hN1, HR.out, hxF_zero]; rfl
        have Hfin := Lib.hid hfin
        clear hfin hN1 hTe
        go_wp2
        go_ret
        exact ⟨congrArg Ending.returned (vstr Hfin.out.symm), rfl⟩
    · obtain ⟨k', rfl⟩ : ∃ k', k = k' + 1 := ⟨k - 1, by
        rcases k with _ | k
        · have := Hm.out; simp at this; omega
        · rfl⟩
      have hnx := hxF_next HR.out h0
      have Hnx := Lib.hid hnx
      have hm2 : m / 16 < 16 ^ k' := by have := Hm.out; rw [Nat.pow_succ] at this; omega
      have Hm2 := Lib.hid hm2
      clear hnx hm2
      have i1 : (0 : Int) < (m : Int) := by omega
      go_wp2
      go_round
      case rel => exact ⟨k', m / 16, _, by omega, Hm2.out, by go_num, fig_cut T, by simp; omega, Hnx.out, fun h => by cases h⟩
      case measure => simp [intOf]; omega
end Go.Proofs.YtbffkddlkfefoaaDoor

/- The contract of the reference's Text for addresses of Inet6. -/
namespace Go.Proofs.YtbffkddlkfefoaaDoor
open Go.RowKit
attribute [local go_sem] ba_get ext_take ext_drop ext_any ba_app

set_option maxRecDepth 100000 in
set_option maxHeartbeats 1000000 in
theorem rmapped_any (a : Ad) (w : World) : Calls Tryd.prog 79 #[.agg (adA a)] w fun e w' => e = .returned (.bool (mapB a)) ∧ Below w.heap.size w w' := by
  cases he : emp a 0 5 with
  | false =>
    have hfin : mapB a = false := by unfold mapB; rw [he]; rfl
    have Hfin := Lib.hid hfin
    have He := Lib.hid he
    clear hfin he
    go_enter Tryd.func79, Tryd.ntmps79
    go_wp2_with (first
      | ((with_reducible refine wpList_boxB rfl _ _ rfl rfl ?_); intro g w1 hg hB hb hs; clear hg hs)
      | (with_reducible refine wpList_loadAd rfl _ rfl rfl hB ?_)
      | (go_at_call 133; refine (rempty_any a 0 5 _ (by omega)).mono ?_; rintro e w2 ⟨rfl, hb2⟩; rw [He.out]))
    go_ret
    exact ⟨retb Hfin.out.symm, bel_tr hb hb2⟩
  | true =>
    have hfin : mapB a = decide (grp a 5 = 65535) := by unfold mapB; rw [he]; rfl
    have hd : decide (grp a 5 = 65535) = ((grp a 5 : Int) == 65535) := by rw [Bool.eq_iff_iff]; simp; omega
    have Hfin := Lib.hid (hfin.trans hd)
    have He := Lib.hid he
    clear hfin he hd
    go_enter Tryd.func79, Tryd.ntmps79
    go_wp2_with (first
      | ((with_reducible refine wpList_boxB rfl _ _ rfl rfl ?_); intro g w1 hg hB hb hs; clear hg hs)
      | (with_reducible refine wpList_loadAd (o := ⟨some 3, _, _, _, _, _⟩) rfl _ rfl rfl hB ?_)
      | (go_at_call 133; refine (rempty_any a 0 5 _ (by omega)).mono ?_; rintro e w2 ⟨rfl, hb2⟩; rw [He.out]; have hB2 := hB.bel hb2)
      | (refine wpList_loadAdG (o := ⟨some 6, _, _, _, _, _⟩) rfl _ rfl rfl hB2 ?_)
      | (go_at_call 78; refine (rgroup_any a 5 _ (by omega)).mono ?_; rintro e w3 ⟨rfl, hb3⟩))
    go_ret
    exact ⟨retb Hfin.out.symm, bel_tr (bel_tr hb hb2) hb3⟩

def CtRel (w : World) (a : Ad) (g : Nat) (sv iv : Value) (wr : World) : Prop :=
  ∃ i : Nat, i ≤ 8 ∧ iv = .int .i64 i ∧ sv = .string ⟨(txG a (rowR a).1 (rowR a).2 i).toArray⟩ ∧ Bk wr g 24 (adA a) ∧ Below w.heap.size w wr
theorem txG_in1 {a : Ad} {f n i : Nat} (h1 : f ≤ i) (h2 : i < f + n) (h3 : i = f) : txG a f n (i + 1) = txG a f n i ++ [58, 58] := by rw [txG, if_pos ⟨h1, h2⟩, if_pos h3]
theorem txG_in2 {a : Ad} {f n i : Nat} (h1 : f ≤ i) (h2 : i < f + n) (h3 : i ≠ f) : txG a f n (i + 1) = txG a f n i := by rw [txG, if_pos ⟨h1, h2⟩, if_neg h3]
theorem txG_out1 {a : Ad} {f n i : Nat} (h : ¬ (f ≤ i ∧ i < f + n)) (h3 : 0 < i ∧ i ≠ f + n) : txG a f n (i + 1) = txG a f n i ++ 58 :: hexT (grp a i) := by rw [txG, if_neg h, if_pos h3, List.append_assoc]; rfl
theorem txG_out2 {a : Ad} {f n i : Nat} (h : ¬ (f ≤ i ∧ i < f + n)) (h3 : ¬ (0 < i ∧ i ≠ f + n)) : txG a f n (i + 1) = txG a f n i ++ hexT (grp a i) := by rw [txG, if_neg h, if_neg h3]
theorem colT_mz {a : Ad} (h : mapB a = true) (hz : 0 < a.zone) : colT a = ffff ++ qtx (ad12 a) ++ 37 :: Lib.itoa a.zone := by unfold colT bareT; rw [if_pos hz, if_pos h]
theorem colT_m {a : Ad} (h : mapB a = true) (hz : ¬ 0 < a.zone) : colT a = ffff ++ qtx (ad12 a) := by unfold colT bareT; rw [if_neg hz, if_pos h]
theorem colT_z {a : Ad} (h : mapB a = false) (hz : 0 < a.zone) : colT a = txG a (rowR a).1 (rowR a).2 8 ++ 37 :: Lib.itoa a.zone := by unfold colT bareT; rw [if_pos hz, if_neg (by rw [h]; simp)]
theorem colT_n {a : Ad} (h : mapB a = false) (hz : ¬ 0 < a.zone) : colT a = txG a (rowR a).1 (rowR a).2 8 := by unfold colT bareT; rw [if_neg hz, if_neg (by rw [h]; simp)]
theorem ite_len {n : Int} (h0 : 0 < n) (h1 : n ≤ 9223372036854775807) : (Lib.itoa n).length ≤ 21 := Lib.itoa_length_le n (by omega) h1
theorem txG_len8 (a : Ad) (f n : Nat) : (txG a f n 8).length ≤ 48 := txG_len a f n 8

set_option maxRecDepth 100000 in
set_option maxHeartbeats 2000000 in
theorem rctext_any (a : Ad) (w : World) : Calls Tryd.prog 31 #[.agg (adA a)] w (StrPost w (colT a)) := by
  have hbd := rowR_bd a
  obtain ⟨p, hp⟩ : ∃ p, rowR a = p := ⟨_, rfl⟩
  obtain ⟨f, n⟩ := p
  rw [hp] at hbd
  simp only at hbd
  have Hp := Lib.hid hp
  clear hp
  have hzb := a.ok.2.2.2
  go_enter Tryd.func31, Tryd.ntmps31
  go_wp2_with (first
    | ((with_reducible refine wpList_boxB rfl _ _ rfl rfl ?_); intro g w1 hg hB hb hs; clear hg hs)
    | (with_reducible refine wpList_loadAd rfl _ rfl rfl hB ?_)
    | (go_at_call 76; refine (rrow_any a _).mono ?_; rintro e w2 ⟨rfl, hb2⟩; rw [Hp.out]; simp only; have hB2 := hB.bel hb2; have hb02 := bel_tr hb hb2))
  clear hB hb hb2
  go_loopw [3, 6] (fun sv iv wr => CtRel w a g sv iv wr) (fun _ i _ => 8 - (intOf i).toNat)
  case atStart => exact ⟨0, by omega, rfl, rfl, hB2, hb02⟩
  case round =>
    obtain ⟨i, hi, rfl, rfl, r1, r2⟩ := hrel
    rw [Hp.out]
    simp only
    clear hB2 hb02
    have hTl := txG_len a f n i
    by_cases hlt : i < 8
    · have i0 : (i : Int) < 8 := by omega
      have hgl := grp_lt a i
      have hhl := hexT_len (grp a i)
      by_cases hin : f ≤ i ∧ i < f + n
      · obtain ⟨hin1, hin2⟩ := hin
        have i1 : (f : Int) ≤ (i : Int) := by omega
        have i2 : (i : Int) < (f : Int) + (n : Int) := by omega
        by_cases hif : i = f
        · have i3 : ((i : Int) == (f : Int)) = true := by simp [hif]
          have Hnx := Lib.hid (txG_in1 (a := a) hin1 hin2 hif)
          clear hif
          generalize txG a f n i = T at *
          go_wp2
          go_roundw
          case rel => exact ⟨i + 1, by omega, by go_num, by rw [Hp.out, Hnx.out], r1, r2⟩
          case measure => simp [intOf]; omega
        · have i3 : ((i : Int) == (f : Int)) = false := by simp; omega
          have Hnx := Lib.hid (txG_in2 (a := a) hin1 hin2 hif)
          clear hif
          generalize txG a f n i = T at *
          go_wp2
          go_roundw
          case rel => exact ⟨i + 1, by omega, by go_num, by rw [Hp.out, Hnx.out], r1, r2⟩
          case measure => simp [intOf]; omega
      · have hHp : (hexT (grp a i)).length ≤ 4 := hhl
        have hc : ((¬ (f : Int) ≤ (i : Int)) ∧ (f : Int) ≤ 8) ∨ ((f : Int) ≤ (i : Int) ∧ ¬ (i : Int) < (f : Int) + (n : Int)) := by omega
        have hs : (¬ (0 : Int) < (i : Int) ∧ txG a f n (i + 1) = txG a f n i ++ hexT (grp a i)) ∨ ((0 : Int) < (i : Int) ∧ ((i : Int) != (f : Int) + (n : Int)) = false ∧ txG a f n (i + 1) = txG a f n i ++ hexT (grp a i)) ∨ ((0 : Int) < (i : Int) ∧ ((i : Int) != (f : Int) + (n : Int)) = true ∧ txG a f n (i + 1) = txG a f n i ++ 58 :: hexT (grp a i)) := by
          rcases Nat.eq_zero_or_pos i with h0 | h0
          · exact .inl ⟨by omega, txG_out2 hin (by omega)⟩
          · by_cases h1 : i = f + n
            · exact .inr (.inl ⟨by omega, by simp; omega, txG_out2 hin (by omega)⟩)
            · exact .inr (.inr ⟨by omega, by simp; omega, txG_out1 hin ⟨h0, h1⟩⟩)
        clear hin
        rcases hs with ⟨s1, hnx⟩ | ⟨s1, s2, hnx⟩ | ⟨s1, s2, hnx⟩
        all_goals
          have Hnx := Lib.hid hnx
          clear hnx
          generalize txG a f n i = T at *
          rcases hc with ⟨c1, c2⟩ | ⟨c1, c2⟩
          all_goals
            go_wp2_with (first
              | (with_reducible refine wpList_loadAd rfl _ rfl rfl r1 ?_)
              | (go_at_call 78; refine (rgroup_any a i _ (by omega)).mono ?_; rintro e w2 ⟨rfl, hb2⟩; have r12 := r1.bel hb2)
              | (go_at_call 77; refine (rhex8_any _ _ hgl).mono ?_; rintro e w3 ⟨rfl, h3⟩; have h4 := h3.symm; subst h4; clear h3))
            all_goals
              go_roundw
              case rel => exact ⟨i + 1, by omega, by go_num, by rw [Hp.out, Hnx.out], r12, bel_tr r2 hb2⟩
              case measure => simp [intOf]; omega
    · have hi8 : i = 8 := by omega
      subst hi8
      have hl8 := txG_len8 a f n
      cases hm : mapB a with
      | true =>
        have hql := qtx_len (ad12 a)
        by_cases hz : 0 < a.zone
        case' pos => have hfin := colT_mz hm hz; have hzl := ite_len hz hzb
        case' neg => have hfin := colT_m hm hz
        all_goals
          have Hfin := Lib.hid hfin
          have Hm := Lib.hid hm
          have l0 := u8lt (a.b 12)
          have l1 := u8lt (a.b 13)
          have l2 := u8lt (a.b 14)
          have l3 := u8lt (a.b 15)
          clear hm hfin
          go_wp2_with (first
            | (with_reducible refine wpList_loadAd rfl _ rfl rfl r1 ?_)
            | (go_at_call 79; refine (rmapped_any a _).mono ?_; rintro e w2 ⟨rfl, hb2⟩; rw [Hm.out]; have r12 := r1.bel hb2
               have c0 := r12.cell 13
               have c1 := r12.cell 14
               have c2 := r12.cell 15
               have c3 := r12.cell 16
               rw [adA_13] at c0
               rw [adA_14] at c1
               rw [adA_15] at c2
               rw [adA_16] at c3)
            | (go_at_call 20; refine (rof_any _ _ _ _ _).mono ?_; rintro e w3 ⟨rfl, hb3⟩; have r13 := r12.bel hb3)
            | (go_at_call 19; refine (rqtext_any (ad12 a) _).mono ?_; rintro e w4 ⟨rfl, hb4⟩; have r14 := r13.bel hb4; have c4 := r14.cell 17; rw [adA_17] at c4)
            | (go_at_call 64; refine (rdigits_any _ _ (by omega) (by omega)).mono ?_; rintro e w5 ⟨rfl, h5⟩; have h6 := h5.symm; subst h6; clear h5))
          go_ret
          refine ⟨congrArg Ending.returned (vstr ?_), bel_tr r2 (bel_tr (bel_tr hb2 hb3) hb4)⟩
          rw [Hfin.out]
          simp [ffff]
      | false =>
        by_cases hz : 0 < a.zone
        case' pos => have hfin := colT_z hm hz; have hzl := ite_len hz hzb
        case' neg => have hfin := colT_n hm hz
        all_goals
          rw [Hp.out] at hfin
          simp only at hfin
          have Hfin := Lib.hid hfin
          have Hm := Lib.hid hm
          clear hm hfin
          generalize txG a f n 8 = T at *
          go_wp2_with (first
            | (with_reducible refine wpList_loadAd rfl _ rfl rfl r1 ?_)
            | (go_at_call 79; refine (rmapped_any a _).mono ?_; rintro e w2 ⟨rfl, hb2⟩; rw [Hm.out]; have r12 := r1.bel hb2; have c4 := r12.cell 17; rw [adA_17] at c4)
            | (go_at_call 64; refine (rdigits_any _ _ (by omega) (by omega)).mono ?_; rintro e w5 ⟨rfl, h5⟩; have h6 := h5.symm; subst h6; clear h5))
          go_ret
          refine ⟨congrArg Ending.returned (vstr ?_), bel_tr r2 hb2⟩
          rw [Hfin.out]
          try simp
end Go.Proofs.YtbffkddlkfefoaaDoor

/- The contracts of addr.Map, of addr.Parse at texts without a colon; slices of one address. -/
namespace Go.Proofs.YtbffkddlkfefoaaDoor
open Go.RowKit
attribute [local go_sem] ba_get ext_take ext_drop ext_any ba_app

theorem bel_dr {B : Nat} {a w : World} (h : Below B a w) (q : Nat) : Below B a (w.drewN q) := ⟨h.os, h.tape, h.output, h.size, h.block⟩
def ad6m : Ad := ⟨6, [0, 0, 0, 0, 0, 0, 0, 0, 0, 0, 255, 255, 0, 0, 0, 0], 0, ⟨rfl, by decide, by decide⟩⟩
/-- an address of Inet as one of Inet6. -/
def mapA (a : Ad) : Ad := ⟨6, [0, 0, 0, 0, 0, 0, 0, 0, 0, 0, 255, 255, a.b 0, a.b 1, a.b 2, a.b 3], 0, ⟨rfl, by decide, by decide⟩⟩
theorem built_ff : Tryd.prog.built 22 [(10, .int .u8 255), (11, .int .u8 255)] = some (ipA [0, 0, 0, 0, 0, 0, 0, 0, 0, 0, 255, 255, 0, 0, 0, 0]) := by kernel_rfl
theorem built_6m : Tryd.prog.built 24 [(0, .int .i64 6), (1, .agg (ipA [0, 0, 0, 0, 0, 0, 0, 0, 0, 0, 255, 255, 0, 0, 0, 0]))] = some (adA ad6m) := by kernel_rfl
theorem splice_map (a : Ad) : splice (adL ad6m) 13 [byv (a.b 0), byv (a.b 1), byv (a.b 2), byv (a.b 3)] = adL (mapA a) := rfl
theorem bs_one (b : Ad) : Tryd.prog.builtSlice 24 1 [(0, .agg (adA b))] = some (adA b) := by
  obtain ⟨fam, ip, zone, ok⟩ := b
  obtain ⟨c0, c1, c2, c3, c4, c5, c6, c7, c8, c9, c10, c11, c12, c13, c14, c15, rfl⟩ := len16 ok.1
  kernel_rfl

set_option maxRecDepth 100000 in
set_option maxHeartbeats 1000000 in
theorem amap_any (a : Ad) (w : World) (hf : a.fam = 4) : Calls Tryd.prog 82 #[.agg (adA a)] w (AdPost w (mapA a)) := by
  have H1 := Lib.hid built_ff
  have H2 := Lib.hid built_6m
  go_enter Tryd.func82, Tryd.ntmps82
  go_wp2_with (first
    | ((with_reducible refine wpList_boxB rfl _ _ rfl rfl ?_); intro g1 w1 hg hB1 hb1 hs; have hg1 : w.heap.size = g1 := hg.symm; clear hg hs)
    | ((with_reducible refine wpList_allocAd (o := ⟨some 2, _, _, _, _, _⟩) rfl rfl ?_); intro g2 w2 hg hB2 hb2 hs; have hg2 : w1.heap.size = g2 := hg.symm; have hB12 := hB1.bel hb2; have c0 := hB12.cell 0; rw [adA_0, hf] at c0; clear hg hs)
    | (with_reducible refine wpList_buildL rfl 22 _ rfl H1.out rfl ?_)
    | (with_reducible refine wpList_buildL rfl 24 _ rfl H2.out rfl ?_)
    | ((with_reducible refine wpList_allocAd (o := ⟨some 3, _, _, _, _, _⟩) rfl rfl ?_); intro g3 w3 hg hB3 hb3 hs; have hg3 : w2.heap.size = g3 := hg.symm; have hB13 := hB12.bel hb3; have hB23 := hB2.bel hb3; clear hg hs c0)
    | ((with_reducible refine wpList_storeAd rfl (.tmp 3) _ rfl rfl rfl hB3 ?_); intro w4 hB4 hS4))
  have l1 := hB1.lt
  have l2 := hB12.lt
  have l3 := hB23.lt
  have l4 := hB2.lt
  have n1 : g1 ≠ g3 := by omega
  have n2 : g2 ≠ g3 := by omega
  have hB14 := hB13.stays hS4 n1
  have hB24 := hB23.stays hS4 n2
  have hgw : w.heap.size ≤ g3 := by omega
  have hbb : Below w.heap.size w w4 := (bel_tr (bel_tr hb1 hb2) hb3).trans (hS4.below hgw)
  have HB4 := Lib.hid (show w4.heap[g3]? = some (.cells (adL ad6m).toArray 24 (0, 0)) from hB4)
  have HC : Hid (∀ (j : Nat) (v : Value), [byv (a.b 0), byv (a.b 1), byv (a.b 2), byv (a.b 3)][j]? = some v → w4.cell? ⟨g1, 1 + j, none⟩ = some v) := Lib.hid (fun j v hv => by
    have hj : j < 4 := (List.getElem?_eq_some_iff.1 hv).1
    rw [hB14.cell (1 + j), Nat.add_comm, adA_ip a (by omega), ← hv]
    match j, hj with
    | 0, _ => rfl
    | 1, _ => rfl
    | 2, _ => rfl
    | 3, _ => rfl)
  clear hB1 hB2 hB3 hB4 hB12 hB13 hB23 hS4 hb1 hb2 hb3
  go_region_law (refine step_copy_splice rfl (.tmp 11) (.tmp 13) 156 156 rfl 5 Tryd.underlying156 (by kernel_rfl) (some ⟨g3, 13, none⟩) (some ⟨g1, 1, none⟩) 4 4 4 16 (by simp [Act.eval, Act.put]) (by simp [Act.eval, Act.put]) g3 13 (adL ad6m) 24 HB4.out [byv (a.b 0), byv (a.b 1), byv (a.b 2), byv (a.b 3)] rfl (fun _ => ⟨rfl, _, rfl, fun j v hv => by rw [add_none]; exact HC.out j v hv⟩) (by rw [adL_len]; simp) (by simp [byv, Value.oneCell']) g3 w4 (bel_dr (Below.refl g3 w4) _) (Nat.le_refl _) ?_; intro w6 hg6 hb6)
  have hB6 : Bk w6 g3 24 (adA (mapA a)) := by have := hg6.out; rw [splice_map] at this; exact this
  have hB26 := hB24.below hb6 (by omega)
  have hbz : Below w.heap.size w w6 := hbb.trans (hb6.mono hgw)
  clear hg6
  go_wp2_with (first
    | (with_reducible refine wpList_loadAd rfl _ rfl rfl hB6 ?_)
    | ((with_reducible refine wpList_storeAd rfl (.tmp 2) _ rfl rfl rfl hB26 ?_); intro w7 hB7 hS7))
  exact ret_ad Tryd.results82 rfl hB7 rfl ⟨rfl, hbz.trans (hS7.below (by omega))⟩

theorem adE_cases (o : Option Ad) (n : Int) : ∃ x k, adE o n = .tuple #[.agg (adA x), .int .i64 k] := by
  cases o with
  | none => exact ⟨_, _, rfl⟩
  | some x => exact ⟨_, _, rfl⟩
set_option maxRecDepth 100000 in
set_option maxHeartbeats 1000000 in
theorem aparseQ_any (s : List UInt8) (w : World) (ht : Tab w) (hl : s.length ≤ 1000000000) (hc : Lib.indexByte s 58 = -1) : Calls Tryd.prog 42 #[.string ⟨s.toArray⟩] w (QpPost w s) := by
  have Ht := Lib.hid ht
  have Hc := Lib.hid hc
  clear ht hc
  obtain ⟨x, k, hxk⟩ := adE_cases (qpA s) 5
  have Hx := Lib.hid hxk
  clear hxk
  go_enter Tryd.func42, Tryd.ntmps42
  go_wp2_with (first
    | ((with_reducible refine wpList_allocAd rfl rfl ?_); intro g w1 hg hB hb hs; have hg1 : w.heap.size ≤ g := Nat.le_of_eq hg.symm; clear hg hs)
    | (go_at_call 95; refine (Tryd.strings_IndexByte _ _ _).mono ?_; rintro e w2 ⟨rfl, hw⟩; have hw2 := hw.symm; subst hw2; clear hw; rw [show Lib.indexByte (⟨s.toArray⟩ : ByteArray).data.toList ((58 : Int).toNat.toUInt8) = -1 from Hc.out])
    | (go_at_call 15; refine (qparse_any s _ (Ht.out.below hb) hl).mono ?_; rintro e w3 ⟨rfl, hb3⟩; rw [Hx.out]; have hB3 := hB.bel hb3)
    | ((with_reducible refine wpList_storeAd rfl _ _ rfl rfl rfl hB3 ?_); intro w4 hB4 hS4))
  refine ret_adE Tryd.results42 rfl rfl hB4 rfl ⟨by rw [Hx.out]; rfl, (bel_tr hb hb3).trans (hS4.below hg1)⟩
end Go.Proofs.YtbffkddlkfefoaaDoor

/- The contracts of hints.Check, of its reference, and the walk of HintsChecks. -/
namespace Go.Proofs.YtbffkddlkfefoaaDoor
open Go.RowKit
attribute [local go_sem] ba_get ext_take ext_drop ext_any ba_app

/-- what is wanted, as a value of three cells. -/
structure Hn where
  fl : Int
  fam : Int
  so : Int
  ok : (-9223372036854775808 ≤ fl ∧ fl ≤ 9223372036854775807) ∧ (-9223372036854775808 ≤ fam ∧ fam ≤ 9223372036854775807) ∧ (-9223372036854775808 ≤ so ∧ so ≤ 9223372036854775807)
def hnL (h : Hn) : List Value := [.int .i64 h.fl, .int .i64 h.fam, .int .i64 h.so]
def hnA (h : Hn) : Array Value := (hnL h).toArray
theorem hn_under : Tryd.prog.underlying 44 = some (.struct (Tryd.prog.fieldsOf 44)) := by kernel_rfl
theorem hn_size : (Tryd.prog.info? 44).map (·.size) = some 3 := by kernel_rfl
theorem hn_size' (h : Hn) : (Tryd.prog.info? 44).map (·.size) = some (hnA h).size := hn_size
theorem hn0 {w : World} {g : Nat} {t : TypeId} {h : Hn} (hB : Bk w g t (hnA h)) : w.cell? ⟨g, 0, none⟩ = some (.int .i64 h.fl) := hB.cell 0
theorem hn1 {w : World} {g : Nat} {t : TypeId} {h : Hn} (hB : Bk w g t (hnA h)) : w.cell? ⟨g, 1, none⟩ = some (.int .i64 h.fam) := hB.cell 1
theorem hn2 {w : World} {g : Nat} {t : TypeId} {h : Hn} (hB : Bk w g t (hnA h)) : w.cell? ⟨g, 2, none⟩ = some (.int .i64 h.so) := hB.cell 2
theorem wpList_loadHn {w : World} {ops : Array Oper} {rest : List Oper} {o : Oper} {a : Act} {Q : Exit → Act → World → Prop} (hw : Region.wanted o (yielded ops a.tmps) = true) (x : Operand) (ho : o.op = .load 44 x) {g : Nat} (hx : a.eval x = .pointer (some ⟨g, 0, none⟩))
    {t : TypeId} {b : Hn} (hB : Bk w g t (hnA b)) (h : wpList Tryd.prog ops Q rest (a.put o.dst (.agg (hnA b))) w) : wpList Tryd.prog ops Q (o :: rest) a w :=
  BigFrame.wpList_want hw fun _ hK => wp_load_row _ x ho g hx t (hnA b) (0, 0) _ hB hn_under rfl (hn_size' b) (hK _ _ h)
theorem Bk.rangeHn {w : World} {g : Nat} {t : TypeId} {b : Hn} (h : Bk w g t (hnA b)) : w.rangeAt g 0 (hnL b) := fun j v hv => by
  rw [h.cell (0 + j)]
  unfold hnA
  rw [List.getElem?_toArray]
  simpa using hv
theorem quiet_loadHn {w : World} {o : Oper} {a a' : Act} {K : Act → Prop} (x : Operand) (ho : o.op = .load 44 x) {g off : Nat} (hx : a.eval x = .pointer (some ⟨g, off, none⟩)) {b : Hn} (hB : w.rangeAt g off (hnL b))
    (ha : a.put o.dst (.agg (hnA b)) = a') (hk : K a') : o.quiet Tryd.prog a (fun w' => ∃ y : BelT w, w' = y.at_) K := by
  subst ha
  refine ⟨_, ?_, hk⟩
  rintro _ ⟨y, rfl⟩
  unfold Oper.quietAt execOp
  have hr : y.at_.rangeAt g off (hnL b) := fun j v hv => y.cell (hB j v hv)
  simp only [ho, hx, Instr.loadAt, Instr.sureAddr, Sem.run_bind, Sem.run_pure, Result.andThen_ok, run_loadVar_mid y.at_ g off 44 (hnL b) _ hr hn_under rfl hn_size]
  exact ⟨rfl, rfl⟩

/-- what is wrong with what is wanted. -/
def chkH (fl fam so : Int) (n s : List UInt8) : Int :=
  if fl < 0 ∨ 255 < fl then 8 else if n = [] ∧ s = [] then 3 else if n = [] ∧ fl / 2 % 2 ≠ 0 then 8 else if fam ≠ 0 ∧ fam ≠ 4 ∧ fam ≠ 6 then 5 else if so ≠ 0 ∧ so ≠ 1 ∧ so ≠ 2 then 7 else 0
theorem and2_0 {n : Nat} (h : n < 256) (h2 : n / 2 % 2 = 0) : bits .and .i64 (n : Int) 2 = 0 := by
  have : ∀ n : Fin 256, n.val / 2 % 2 = 0 → bits .and .i64 (n.val : Int) 2 = 0 := by decide +kernel
  exact this ⟨n, h⟩ h2
theorem and2_1 {n : Nat} (h : n < 256) (h2 : n / 2 % 2 = 1) : bits .and .i64 (n : Int) 2 = 2 := by
  have : ∀ n : Fin 256, n.val / 2 % 2 = 1 → bits .and .i64 (n.val : Int) 2 = 2 := by decide +kernel
  exact this ⟨n, h⟩ h2
def HPost (w : World) (n : Int) (e : Ending) (w' : World) : Prop := e = .returned (.int .i64 n) ∧ Below w.heap.size w w'

def restH (fam so : Int) : Int := if fam ≠ 0 ∧ fam ≠ 4 ∧ fam ≠ 6 then 5 else if so ≠ 0 ∧ so ≠ 1 ∧ so ≠ 2 then 7 else 0
/-- the ways through both kinds, with what comes of each. -/
def ways (fam so : Int) : Prop :=
  ((fam != 0) = true ∧ (fam != 4) = true ∧ (fam != 6) = true ∧ restH fam so = 5) ∨
  ((((fam != 0) = false) ∨ ((fam != 0) = true ∧ (fam != 4) = false) ∨ ((fam != 0) = true ∧ (fam != 4) = true ∧ (fam != 6) = false)) ∧
    (((so != 0) = true ∧ (so != 1) = true ∧ (so != 2) = true ∧ restH fam so = 7) ∨
     (((so != 0) = false ∧ restH fam so = 0) ∨ ((so != 0) = true ∧ (so != 1) = false ∧ restH fam so = 0) ∨ ((so != 0) = true ∧ (so != 1) = true ∧ (so != 2) = false ∧ restH fam so = 0))))
theorem ways_all (fam so : Int) : ways fam so := by
  have h0 : (fam ≠ 0 ↔ (fam != 0) = true) ∧ (fam ≠ 4 ↔ (fam != 4) = true) ∧ (fam ≠ 6 ↔ (fam != 6) = true) ∧ (so ≠ 0 ↔ (so != 0) = true) ∧ (so ≠ 1 ↔ (so != 1) = true) ∧ (so ≠ 2 ↔ (so != 2) = true) := by simp
  obtain ⟨a0, a4, a6, b0, b1, b2⟩ := h0
  unfold ways restH
  simp only [a0, a4, a6, b0, b1, b2]
  clear a0 a4 a6 b0 b1 b2
  cases (fam != 0) <;> cases (fam != 4) <;> cases (fam != 6) <;> cases (so != 0) <;> cases (so != 1) <;> cases (so != 2) <;> simp
/-- the ways through the flags and the texts. -/
def front (k : Nat) (fam so : Int) (n s : List UInt8) : Prop :=
  (n = [] ∧ s = [] ∧ chkH k fam so n s = 3) ∨ (n = [] ∧ s.isEmpty = false ∧ k / 2 % 2 = 1 ∧ chkH k fam so n s = 8) ∨
  (((n = [] ∧ s.isEmpty = false ∧ k / 2 % 2 = 0) ∨ (n.isEmpty = false ∧ k / 2 % 2 = 0) ∨ (n.isEmpty = false ∧ k / 2 % 2 = 1)) ∧ chkH k fam so n s = restH fam so)
theorem front_all {k : Nat} (hk : k < 256) (fam so : Int) (n s : List UInt8) : front k fam so n s := by
  have hfl : ¬ ((k : Int) < 0 ∨ 255 < (k : Int)) := by omega
  have hb : k / 2 % 2 = 0 ∨ k / 2 % 2 = 1 := by omega
  have hbi : ((k : Int) / 2 % 2 ≠ 0) ↔ k / 2 % 2 = 1 := by omega
  unfold front chkH
  simp only [if_neg hfl, hbi]
  unfold restH
  rcases n with _ | ⟨x, n⟩ <;> rcases s with _ | ⟨y, s⟩ <;> rcases hb with hb | hb <;> simp [hb]

set_option maxRecDepth 100000 in
set_option maxHeartbeats 4000000 in
theorem hcheck_any (h : Hn) (n s : List UInt8) (w : World) : Calls Tryd.prog 33 #[.agg (hnA h), .string ⟨n.toArray⟩, .string ⟨s.toArray⟩] w (HPost w (chkH h.fl h.fam h.so n s)) := by
  obtain ⟨fl, fam, so, ok⟩ := h
  simp only
  obtain ⟨R, hR⟩ : ∃ R, chkH fl fam so n s = R := ⟨_, rfl⟩
  rcases (show fl < 0 ∨ (¬ fl < 0 ∧ 255 < fl) ∨ (0 ≤ fl ∧ fl ≤ 255) by omega) with h1 | ⟨h1, h2⟩ | h1
  case' inr.inr =>
    obtain ⟨k, rfl⟩ : ∃ k : Nat, fl = (k : Int) := ⟨fl.toNat, by omega⟩
    have hk : k < 256 := by omega
    rcases front_all hk fam so n s with ⟨rfl, rfl, e⟩ | ⟨rfl, i1, i2, e⟩ | ⟨hh, e⟩
    case' inr.inr =>
      rcases hh with ⟨rfl, i1, i2⟩ | ⟨i1, i2⟩ | ⟨i1, i2⟩
      all_goals rcases ways_all fam so with ⟨j0, j1, j2, e2⟩ | ⟨hfm, ⟨s0, s1, s2, e2⟩ | ⟨s0, e2⟩ | ⟨s0, s1, e2⟩ | ⟨s0, s1, s2, e2⟩⟩
      all_goals try rcases hfm with j0 | ⟨j0, j1⟩ | ⟨j0, j1, j2⟩
  all_goals first
    | have hf := hR.symm.trans (e.trans e2)
    | have hf := hR.symm.trans e
    | have hf : R = 8 := by rw [← hR]; unfold chkH; rw [if_pos (by omega)]
  all_goals
    try have z0 := and2_0 hk i2
    try have z0 := and2_1 hk i2
    rw [hR]
    clear hR
    subst hf
    try clear e
    try clear e2
    go_enter Tryd.func33, Tryd.ntmps33
    go_wp2_with (first
      | ((with_reducible refine wpList_boxB rfl _ _ rfl rfl ?_); intro g w1 hg hB hb hs; clear hg hs; have c0 := hn0 hB; have c1 := hn1 hB; have c2 := hn2 hB; simp only at c0 c1 c2))
    go_ret
    exact ⟨rfl, hb⟩
end Go.Proofs.YtbffkddlkfefoaaDoor

/- The contracts of the reference's Has and Check (42), of hints.Literal at the law's own text, and the walk of HintsChecks. -/
namespace Go.Proofs.YtbffkddlkfefoaaDoor
open Go.RowKit
attribute [local go_sem] ba_get ext_take ext_drop ext_any ba_app

set_option maxRecDepth 100000 in
set_option maxHeartbeats 4000000 in
theorem rhas2_any (h : Hn) (k : Nat) (hk : h.fl = (k : Int)) (hk2 : k < 256) (r : Bool) (hr : ((((k / 2 % 2 : Nat) : Int)) != 0) = r) (w : World) : Calls Tryd.prog 81 #[.agg (hnA h), .int .i64 2] w fun e w' => e = .returned (.bool r) ∧ Below w.heap.size w w' := by
  have Hr := Lib.hid hr
  clear hr
  go_enter Tryd.func81, Tryd.ntmps81
  go_wp2_with (first
    | ((with_reducible refine wpList_boxB rfl _ _ rfl rfl ?_); intro g w1 hg hB hb hs; clear hg hs; have c0 := hn0 hB; rw [hk] at c0))
  go_ret
  exact ⟨retb Hr.out, hb⟩

set_option maxRecDepth 100000 in
set_option maxHeartbeats 4000000 in
theorem rhcheck_any (h : Hn) (n s : List UInt8) (w : World) : Calls Tryd.prog 34 #[.agg (hnA h), .string ⟨n.toArray⟩, .string ⟨s.toArray⟩] w (HPost w (chkH h.fl h.fam h.so n s)) := by
  obtain ⟨fl, fam, so, ok⟩ := h
  simp only
  obtain ⟨R, hR⟩ : ∃ R, chkH fl fam so n s = R := ⟨_, rfl⟩
  rcases (show fl < 0 ∨ (¬ fl < 0 ∧ 255 < fl) ∨ (0 ≤ fl ∧ fl ≤ 255) by omega) with h1 | ⟨h1, h2⟩ | h1
  case' inr.inr =>
    obtain ⟨k, rfl⟩ : ∃ k : Nat, fl = (k : Int) := ⟨fl.toNat, by omega⟩
    have hk : k < 256 := by omega
    rcases front_all hk fam so n s with ⟨rfl, rfl, e⟩ | ⟨rfl, i1, i2, e⟩ | ⟨hh, e⟩
    case' inr.inr =>
      rcases (show (n = [] ∧ s.isEmpty = false ∧ k / 2 % 2 = 0) ∨ n.isEmpty = false by rcases hh with h | h | h; exact .inl h; exact .inr h.1; exact .inr h.1) with ⟨rfl, i1, i2⟩ | i1
      all_goals rcases ways_all fam so with ⟨j0, j1, j2, e2⟩ | ⟨hfm, ⟨s0, s1, s2, e2⟩ | ⟨s0, e2⟩ | ⟨s0, s1, e2⟩ | ⟨s0, s1, s2, e2⟩⟩
      all_goals try rcases hfm with j0 | ⟨j0, j1⟩ | ⟨j0, j1, j2⟩
      all_goals clear hh
  all_goals first
    | have hf := hR.symm.trans (e.trans e2)
    | have hf := hR.symm.trans e
    | have hf : R = 8 := by rw [← hR]; unfold chkH; rw [if_pos (by omega)]
  all_goals
    try (obtain ⟨r, hr⟩ : ∃ r : Bool, ((((k / 2 % 2 : Nat) : Int)) != 0) = r := ⟨_, rfl⟩
         have hr2 := hr
         rw [i2] at hr2
         replace hr2 : r = _ := hr2.symm
         have Hr := Lib.hid hr
         have Hr2 := Lib.hid hr2
         clear hr hr2 i2)
    rw [hR]
    clear hR
    subst hf
    try clear e
    try clear e2
    go_enter Tryd.func34, Tryd.ntmps34
    go_wp2_with (first
      | ((with_reducible refine wpList_boxB rfl _ _ rfl rfl ?_); intro g w1 hg hB hb hs; clear hg hs; have c0 := hn0 hB; have c1 := hn1 hB; have c2 := hn2 hB; simp only at c0 c1 c2; have hb1 : Below w1.heap.size w1 w1 := Below.refl _ _)
      | (refine wpList_loadHn rfl _ rfl rfl hB ?_)
      | (go_at_call 81; refine (rhas2_any _ k rfl hk r Hr.out _).mono ?_; rintro e w2 ⟨rfl, hb2⟩; rw [Hr2.out]; clear hb1; have hb1 := hb2; have hB2 := hB.bel hb2; clear c0 c1 c2; have c0 := hn0 hB2; have c1 := hn1 hB2; have c2 := hn2 hB2; simp only at c0 c1 c2))
    go_ret
    exact ⟨rfl, bel_tr hb hb1⟩

def hn42 : Hn := ⟨16, 6, 0, by decide⟩
theorem built_hn42 : Tryd.prog.built 44 [(1, .int .i64 6), (0, .int .i64 16)] = some (hnA hn42) := by kernel_rfl
def ad42 : Ad := mapA (adOf 127 0 0 1)
theorem ct42 : colT ad42 = [58, 58, 102, 102, 102, 102, 58, 49, 50, 55, 46, 48, 46, 48, 46, 49] := by decide +kernel
theorem ib42 : Lib.indexByte [49, 50, 55, 46, 49] 58 = -1 := by decide +kernel
def Lit42 (w : World) (e : Ending) (w' : World) : Prop := ∃ g, e = .returned (.tuple #[.slice (some ⟨g, 0, none⟩) 1 1, .int .i64 0, .bool true]) ∧ Bk w' g 24 (adA ad42) ∧ Below w.heap.size w w'
set_option maxRecDepth 100000 in
set_option maxHeartbeats 4000000 in
theorem literal42 (w : World) (ht : Tab w) : Calls Tryd.prog 80 #[.string ⟨#[49, 50, 55, 46, 49]⟩, .agg (hnA hn42)] w (Lit42 w) := by
  have Ht := Lib.hid ht
  clear ht
  have hs1 := bs_one ad42
  have Hs1 := Lib.hid hs1
  clear hs1
  go_enter Tryd.func80, Tryd.ntmps80
  go_wp2_with (first
    | ((with_reducible refine wpList_boxB rfl _ _ rfl rfl ?_); intro g1 w1 hg hB1 hb1 hs; clear hg hs)
    | (go_at_call 42; refine (aparseQ_any [49, 50, 55, 46, 49] _ (Ht.out.below hb1) (by simp) ib42).mono ?_; rintro e w2 ⟨rfl, hb2⟩; rw [w7p]; unfold adE; have hB12 := hB1.bel hb2; have hb02 := bel_tr hb1 hb2)
    | ((with_reducible refine wpList_allocAd rfl rfl ?_); intro g7 w3 hg hB7 hb3 hs; have hg7 : w2.heap.size ≤ g7 := Nat.le_of_eq hg.symm; have hB13 := hB12.bel hb3; clear hg hs)
    | ((with_reducible refine wpList_storeAd (b := ad0) rfl (.tmp 7) (.tmp 12) rfl rfl rfl hB7 ?_); intro w4 hB74 hS4; have hB14 := hB13.stays hS4 (by have := hB12.lt; omega); have hb04 := bel_tr hb02 (hb3.trans (hS4.below hg7)))
    | (go_at_call 16; refine (loose_any [49, 50, 55, 46, 49] _ (by simp)).mono ?_; rintro e w5 ⟨rfl, hb5⟩; rw [w7l]; unfold adS; have hB15 := hB14.bel hb5; have hB75 := hB74.bel hb5; have hb05 := bel_tr hb04 hb5)
    | ((with_reducible refine wpList_storeAd rfl (.tmp 7) (.tmp 19) rfl rfl rfl hB75 ?_); intro w6 hB76 hS6; have hB16 := hB15.stays hS6 (by have := hB12.lt; omega); have hb06 : Below w.heap.size w w6 := hb05.trans (hS6.below (by have := hb02.size; omega))
       have c0 : w6.cell? ⟨g7, 0, none⟩ = some (.int .i64 4) := by have := hB76.cell 0; rw [adA_0] at this; exact this
       have c1 : w6.cell? ⟨g1, 0, none⟩ = some (.int .i64 16) := hn0 hB16
       have c2 : w6.cell? ⟨g1, 1, none⟩ = some (.int .i64 6) := hn1 hB16)
    | (with_reducible refine wpList_loadAd (o := ⟨some 35, _, _, _, _, _⟩) rfl _ rfl rfl hB76 ?_)
    | (go_at_call 82; refine (amap_any (adOf 127 0 0 1) _ rfl).mono ?_; rintro e w7 ⟨rfl, hb7⟩; have hB17 := hB16.bel hb7; have hB77 := hB76.bel hb7; have hb07 := bel_tr hb06 hb7; clear c0 c1 c2)
    | ((with_reducible refine wpList_storeAd (b := ad42) rfl (.tmp 7) (.tmp 36) rfl rfl rfl hB77 ?_); intro w8 hB78 hS8; have hB18 := hB17.stays hS8 (by have := hB12.lt; omega); have hb08 : Below w.heap.size w w8 := hb07.trans (hS8.below (by have := hb02.size; omega))
       have c0 : w8.cell? ⟨g7, 0, none⟩ = some (.int .i64 6) := by have := hB78.cell 0; rw [adA_0] at this; exact this
       have c2 : w8.cell? ⟨g1, 1, none⟩ = some (.int .i64 6) := hn1 hB18)
    | (with_reducible refine wpList_loadAd (o := ⟨some 45, _, _, _, _, _⟩) rfl _ rfl rfl hB78 ?_)
    | (refine wpList_buildSliceTo rfl 100 24 1 _ rfl _ rfl _ rfl Tryd.underlying100 (adA ad42) Hs1.out ?_))
  go_ret3
  exact ⟨_, rfl, Bk.new _ _ _, hb08.trans (((Below.refl _ _).alloc (Nat.le_refl _) _).mono hb08.size)⟩
end Go.Proofs.YtbffkddlkfefoaaDoor
