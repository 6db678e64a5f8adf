/- Contracts and plain lemmas of our own, merged. -/
import Derived.Test.YtbffkddlkfefoaaDoorZqb10
import Derived.Test.YtbffkddlkfefoaaDoorZqb12
import Derived.Test.YtbffkddlkfefoaaDoorZqb15
import Derived.Test.YtbffkddlkfefoaaDoorZqb4
import Derived.Laws.ResultCell
/- The contracts of quad.Text, quad.Parse and of their references. -/
namespace Go.Proofs.YtbffkddlkfefoaaDoor
open Go.RowKit
attribute [local go_sem] ba_get ext_take ext_drop ext_any ba_app

theorem Tab.below {w w' : World} (h : Tab w) (hb : Below w.heap.size w w') : Tab w' := Lib.tabBelow_of_tabIs h w' hb
theorem u8lt (a : UInt8) : (a.toNat : Int) < 256 := by have := a.toNat_lt; omega
/-- an address and an error are handed back. -/
theorem ret_adE {fn : Func} {p q : Tmp} (h : fn.results = #[.cell p 24, .tmp q]) {R : Ending → World → Prop} {a : Act} {w : World} {g : Nat} {t : TypeId} {b : Ad} {v : Value}
    (hp : a.tmps.getD p undef = .pointer (some ⟨g, 0, none⟩)) (hq : a.tmps.getD q undef = v) (hB : Bk w g t (adA b)) (hd : a.defers = []) (hR : R (.returned (.tuple #[.agg (adA b), v])) w) : bodyPost Tryd.prog fn R .ret a w := by
  refine bodyPost_ret_by (v := .tuple #[.agg (adA b), v]) ?_ hd hR
  have hp' : a.tmps[p]?.getD undef = .pointer (some ⟨g, 0, none⟩) := by simpa using hp
  have hq' : a.tmps[q]?.getD undef = v := by simpa using hq
  simp [results, h, hp', hq', asAddr, run_loadVar_row (P := Tryd.prog) w g t 24 (adA b) (0, 0) _ hB ad_under rfl (ad_size' b)]

set_option maxRecDepth 100000 in
set_option maxHeartbeats 400000 in
theorem rof_any (a b c d : UInt8) (w : World) : Calls Tryd.prog 20 #[.int .i64 (a.toNat : Int), .int .i64 (b.toNat : Int), .int .i64 (c.toNat : Int), .int .i64 (d.toNat : Int)] w (AdPost w (adOf a b c d)) := by
  have H1 := Lib.hid (built_ip4 a b c d)
  have H2 := Lib.hid (built_of a b c d)
  have a1 := u8lt a
  have b1 := u8lt b
  have c1 := u8lt c
  have d1 := u8lt d
  go_enter Tryd.func20, Tryd.ntmps20
  go_wp2_with (first
    | ((with_reducible refine wpList_allocAd rfl rfl ?_); intro g w1 hg hB hb hs; have hg1 : w.heap.size ≤ g := Nat.le_of_eq hg.symm; clear hg hs)
    | (with_reducible refine wpList_buildL rfl 22 _ rfl H1.out rfl ?_)
    | (with_reducible refine wpList_buildL rfl 24 _ rfl H2.out rfl ?_)
    | ((with_reducible refine wpList_storeAd rfl _ _ rfl rfl rfl hB ?_); intro w2 hB2 hS2))
  exact ret_ad Tryd.results20 rfl hB2 rfl ⟨rfl, hb.trans (hS2.below hg1)⟩

theorem joi_qtx (a : Ad) : joi [46] [itu (a.b 0), itu (a.b 1), itu (a.b 2), itu (a.b 3)] = qtx a := joi_jB 46 _

set_option maxRecDepth 100000 in
set_option maxHeartbeats 1000000 in
theorem qtext_any (a : Ad) (w : World) (ht : Tab w) : Calls Tryd.prog 14 #[.agg (adA a)] w (StrPost w (qtx a)) := by
  have Ht := Lib.hid ht
  clear ht
  go_enter Tryd.func14, Tryd.ntmps14
  go_wp2_with (first
    | ((with_reducible refine wpList_boxB rfl _ _ rfl rfl ?_); intro g w1 hg hB hb hs; clear hg hs))
  have c0 := hB.cell 1
  have c1 := hB.cell 2
  have c2 := hB.cell 3
  have c3 := hB.cell 4
  rw [adA_1] at c0
  rw [adA_2] at c1
  rw [adA_3] at c2
  rw [adA_4] at c3
  have x0 := fun x : BelT w1 => x.cell c0
  have x1 := fun x : BelT w1 => x.cell c1
  have x2 := fun x : BelT w1 => x.cell c2
  have x3 := fun x : BelT w1 => x.cell c3
  have l0 := u8lt (a.b 0)
  have l1 := u8lt (a.b 1)
  have l2 := u8lt (a.b 2)
  have l3 := u8lt (a.b 3)
  clear c0 c1 c2 c3
  refine wp_region_bel_tail 20 (by kernel_rfl) (by kernel_rfl) ?_
  simp only [List.take_succ_cons, List.take_zero, List.drop_succ_cons, List.drop_zero]
  repeat (first
    | go_big_quiet_skip
    | (go_big_quiet_want; (go_big_quiet_op; first | go_big_quiet_on | go_big_quiet_call ((refine bel_call (digits_any _ _ (Ht.out.below (bel_tr hb (BelT.bel _))) (by omega) (by omega)))))))
  refine wpQuiet_nil ?_
  rintro _ ⟨x, rfl⟩
  have hbx := bel_tr hb x.bel
  have hsl := Sl.new x.at_ ([itu (a.b 0), itu (a.b 1), itu (a.b 2), itu (a.b 3)].map stv) 9
  have Hsl := Lib.hid hsl
  have hjl : (joi [46] [itu (a.b 0), itu (a.b 1), itu (a.b 2), itu (a.b 3)]).length ≤ 1000000000 := by rw [joi_qtx]; have := qtx_len a; omega
  have Hjl := Lib.hid hjl
  clear hsl hjl x0 x1 x2 x3
  go_wp2_with (first
    | (go_at_call 59; refine (join_any [46] [itu (a.b 0), itu (a.b 1), itu (a.b 2), itu (a.b 3)] _ _ Hsl.out (by simp) Hjl.out).mono ?_; rintro e w3 ⟨rfl, hb3⟩; rw [joi_qtx]))
  go_ret
  exact ⟨rfl, hbx.trans (((Below.refl _ _).alloc hbx.size _).trans (hb3.mono (by have := hbx.size; simp; omega)))⟩

def qL (a : Ad) : List (List UInt8) := [itu (a.b 0), itu (a.b 1), itu (a.b 2), itu (a.b 3)]
theorem qL_len (a : Ad) : (qL a).length = 4 := rfl
theorem qL_at (a : Ad) {k : Nat} (h : k < 4) : (qL a)[k]'(by rw [qL_len]; exact h) = itu (a.b k) := by
  match k, h with
  | 0, _ => rfl
  | 1, _ => rfl
  | 2, _ => rfl
  | 3, _ => rfl
theorem qL_joi (a : Ad) : joi [46] (qL a) = qtx a := joi_qtx a
theorem qL_le (a : Ad) {k : Nat} (h : k ≤ 4) : (joi [46] ((qL a).take k)).length ≤ 15 := by
  have h1 := joi_le (A := qL a) [46] k (by rw [qL_len]; exact h)
  rw [qL_joi] at h1
  have := qtx_len a
  omega
theorem qL_next0 (a : Ad) {k : Nat} (h : k = 0) : joi [46] ((qL a).take (k + 1)) = joi [46] ((qL a).take k) ++ itu (a.b k) := by
  subst h
  unfold joi qL
  simp [Lib.join_one, Lib.join_nil]
theorem qL_next (a : Ad) {k : Nat} (h : k < 4) (h0 : 0 < k) : joi [46] ((qL a).take (k + 1)) = joi [46] ((qL a).take k) ++ [46] ++ itu (a.b k) := by
  rw [joi_snoc [46] (by rw [qL_len]; exact h) h0, qL_at a h]
set_option maxRecDepth 100000 in
set_option maxHeartbeats 1000000 in
theorem rqtext_any (a : Ad) (w : World) : Calls Tryd.prog 19 #[.agg (adA a)] w (StrPost w (qtx a)) := by
  go_enter Tryd.func19, Tryd.ntmps19
  go_wp2_with (first
    | ((with_reducible refine wpList_boxB rfl _ _ rfl rfl ?_); intro g w1 hg hB hb hs; clear hg hs))
  go_loop [3, 4] (fun s i => ∃ k : Nat, k ≤ 4 ∧ i = .int .i64 k ∧ s = .string ⟨(joi [46] ((qL a).take k)).toArray⟩) (fun _ i => 4 - (intOf i).toNat)
  case atStart => exact ⟨0, by omega, rfl, rfl⟩
  case round =>
    obtain ⟨k, hk, rfl, rfl⟩ := hrel
    have hle := qL_le a hk
    by_cases hlt : k < 4
    · have c2 := hB.cell (k + 1)
      rw [adA_ip a (by omega)] at c2
      have c3 : w1.cell? ⟨g, 1 + k, none⟩ = some (.int .u8 ((a.b k).toNat : Int)) := by rw [Nat.add_comm]; exact c2
      clear c2
      have lk := u8lt (a.b k)
      have mk := itu_len (a.b k)
      have j1 : (k : Int) < 4 := by omega
      rcases Nat.eq_zero_or_pos k with h0 | h0
      · have hnx := qL_next0 a h0
        have Hnx := Lib.hid hnx
        have j0 : ¬ (0 : Int) < (k : Int) := by omega
        clear hnx h0
        generalize joi [46] ((qL a).take k) = T at *
        go_wp2_with fail
        refine (rdigits_any _ _ (by omega) (by omega)).mono ?_
        rintro e w' ⟨rfl, rfl⟩
        have j3 : (Lib.itoa (((a.b k).toNat : Nat) : Int)).length ≤ 3 := mk
        go_wp2
        go_round
        case rel => exact ⟨k + 1, by omega, by go_num, by rw [Hnx.out]; rfl⟩
        case measure => simp [intOf]; omega
      · have hnx := qL_next a hlt h0
        have Hnx := Lib.hid hnx
        clear hnx
        have j0 : (0 : Int) < (k : Int) := by omega
        generalize joi [46] ((qL a).take k) = T at *
        have j2 : T.length + 1 ≤ 16 := by omega
        go_wp2_with fail
        refine (rdigits_any _ _ (by omega) (by omega)).mono ?_
        rintro e w' ⟨rfl, rfl⟩
        have j3 : (Lib.itoa (((a.b k).toNat : Nat) : Int)).length ≤ 3 := mk
        go_wp2
        go_round
        case rel => exact ⟨k + 1, by omega, by go_num, by rw [Hnx.out, List.append_assoc]; rfl⟩
        case measure => simp [intOf]; omega
    · have hk4 : k = 4 := by omega
      subst hk4
      go_wp2
      go_ret
      exact ⟨by rw [← qL_joi]; rfl, hb⟩

/-! ### reading -/
theorem ofval_lt {l : List UInt8} (h : nokB l = true) : val l < 256 := by
  unfold nokB at h
  have := (of_decide_eq_true h).2.2
  omega
def QpPost (w : World) (s : List UInt8) (e : Ending) (w' : World) : Prop := e = .returned (adE (qpA s) 5) ∧ Below w.heap.size w w'
theorem QpPost.no {w w' : World} {s : List UInt8} (h : qpA s = none) (hb : Below w.heap.size w w') : QpPost w s (.returned (.tuple #[.agg (adA ad0), .int .i64 5])) w' := ⟨by rw [h]; rfl, hb⟩
theorem QpPost.yes {w w' : World} {s : List UInt8} {x : Ad} (h : qpA s = some x) (hb : Below w.heap.size w w') : QpPost w s (.returned (.tuple #[.agg (adA x), .int .i64 0])) w' := ⟨by rw [h]; rfl, hb⟩
theorem qpA_bad {s : List UInt8} {k : Nat} (hk : k < 4) (h : nokB (qpart s k) = false) : qpA s = none := by
  unfold qpA
  rw [if_neg]
  rintro ⟨h1, _⟩
  rw [qokB_bad hk h] at h1
  cases h1
theorem qpA_ne {s : List UInt8} (h : qtx (qad (qpart s) 4) ≠ s) : qpA s = none := by unfold qpA; rw [if_neg (fun k => h k.2)]
theorem qpA_yes {s : List UInt8} (h1 : qokB (qpart s) 4 = true) (h : qtx (qad (qpart s) 4) = s) : qpA s = some (qad (qpart s) 4) := by unfold qpA; rw [if_pos ⟨h1, h⟩]
def QpRel (w : World) (s : List UInt8) (g2 g4 k : Nat) (wr : World) : Prop :=
  Bk wr g2 24 (adA ad0) ∧ Bk wr g4 24 (adA (qad (qpart s) k)) ∧ qokB (qpart s) k = true ∧ Below w.heap.size w wr
set_option maxRecDepth 100000 in
set_option maxHeartbeats 1000000 in
theorem qparse_any (s : List UInt8) (w : World) (ht : Tab w) (hl : s.length ≤ 1000000000) : Calls Tryd.prog 15 #[.string ⟨s.toArray⟩] w (QpPost w s) := by
  have Ht := Lib.hid ht
  clear ht
  go_enter Tryd.func15, Tryd.ntmps15
  go_wp2_with (first
    | ((with_reducible refine wpList_allocAd (o := ⟨some 2, _, _, _, _, _⟩) rfl rfl ?_); intro g2 w1 hg hB2 hb1 hs; have hg2 : w.heap.size ≤ g2 := Nat.le_of_eq hg.symm; have hs2 : g2 + 1 = w1.heap.size := hs.symm; clear hg hs)
    | (with_reducible refine wpList_buildL rfl 24 _ rfl built_4 rfl ?_)
    | ((with_reducible refine wpList_allocAd (o := ⟨some 4, _, _, _, _, _⟩) rfl rfl ?_); intro g4 w2 hg hB4 hb2 hs; have hg4 : g2 < g4 := by omega
       clear hg hs hs2)
    | ((with_reducible refine wpList_storeAd rfl _ _ rfl rfl rfl hB4 ?_); intro w3 hB4' hS3))
  have R0 : QpRel w s g2 g4 0 w3 := ⟨(hB2.bel hb2).stays hS3 (by omega), hB4', rfl, (bel_tr hb1 hb2).trans (hS3.below (by omega))⟩
  clear hB2 hB4 hB4' hS3 hb1 hb2
  go_loopw [5, 14] (fun r i wr => ∃ k : Nat, k ≤ 4 ∧ i = .int .i64 k ∧ r = .string ⟨(qst s k).toArray⟩ ∧ QpRel w s g2 g4 k wr) (fun _ i _ => 4 - (intOf i).toNat)
  case atStart => exact ⟨0, by omega, rfl, rfl, R0⟩
  case round =>
    obtain ⟨k, hk, rfl, rfl, r1, r2, r3, r4⟩ := hrel
    clear R0
    by_cases hlt : k < 4
    · have j1 : (k : Int) < 4 := by omega
      have hql := qst_len s k
      have hpl := qpart_len s k
      cases hn : nokB (qpart s k) with
      | false =>
        have hbad := qpA_bad hlt hn
        obtain ⟨e, he1, he2⟩ := numV_no255 hn
        have He1 := Lib.hid he1
        have Hbad := Lib.hid hbad
        have i0 : (e != 0) = true := by rcases he2 with rfl | rfl <;> rfl
        clear he1 hbad he2 hn
        go_wp2_with (first
          | (go_at_call 61; refine (cut_any 46 _ _ (by omega)).mono ?_; rintro ed w4 ⟨rfl, hb4⟩; rw [cutV_eq])
          | (go_at_call 62; refine (number_any (qpart s k) _ _ (by omega) (by omega) (by omega)).mono ?_; rintro ed w5 ⟨rfl, rfl⟩; rw [He1.out])
          | (with_reducible refine wpList_buildL rfl 24 _ rfl built_0 rfl ?_)
          | ((with_reducible refine wpList_storeAd rfl _ _ rfl rfl rfl (r1.bel hb4) ?_); intro w6 hB6 hS6))
        exact ret_adE Tryd.results15 rfl rfl hB6 rfl (QpPost.no Hbad.out ((bel_tr r4 hb4).trans (hS6.below (by omega))))
      | true =>
        have hok := numV_ok255 hn
        have hv := ofval_lt hn
        have hq := qokB_next r3 hn
        have Hok := Lib.hid hok
        have Hq := Lib.hid hq
        clear hok hq hn
        have hu : (UInt8.ofNat (val (qpart s k))).toNat = val (qpart s k) := UInt8.toNat_ofNat_of_lt' hv
        have Hset := Lib.hid (adA_setB (qad (qpart s) k) (show k < 16 by omega) (UInt8.ofNat (val (qpart s k))))
        have Hu := Lib.hid hu
        clear hu
        have i2 : ((val (qpart s k) : Nat) : Int) < 256 := by omega
        have q1 : ∀ wz, Bk wz g4 24 (adA (qad (qpart s) k)) → wz.cell? ⟨g4, 1 + k, none⟩ = some (.int .u8 (((qad (qpart s) k).b k).toNat : Int)) := fun wz hz => by
          have := hz.cell (k + 1)
          rw [adA_ip _ (by omega)] at this
          rw [Nat.add_comm]; exact this
        have Q1 := Lib.hid q1
        clear q1
        go_wp2_with (first
          | (go_at_call 61; refine (cut_any 46 _ _ (by omega)).mono ?_; rintro ed w4 ⟨rfl, hb4⟩; rw [cutV_eq]
             have r14 := r1.bel hb4
             have r24 := r2.bel hb4
             have q4 := Q1.out _ r24
             have f4 := r24.free (1 + k))
          | (go_at_call 62; refine (number_any (qpart s k) _ _ (by omega) (by omega) (by omega)).mono ?_; rintro ed w5 ⟨rfl, rfl⟩; rw [Hok.out]))
        go_roundw
        case rel =>
          refine ⟨k + 1, by omega, by go_num, rfl, ?_, ?_, Hq.out, (bel_tr r4 hb4).setCell (show w.heap.size ≤ g4 by omega) _⟩
          · exact r14.far (by show g2 ≠ g4; omega) _
          · have := r24.set_ (1 + k) (.int .u8 ((val (qpart s k) : Nat) : Int))
            rw [← Hu.out, Nat.add_comm 1 k, Hset.out] at this
            rw [← Hu.out, Nat.add_comm 1 k]
            exact this
        case measure => simp [intOf]; omega
    · have hk4 : k = 4 := by omega
      subst hk4
      by_cases hne : qtx (qad (qpart s) 4) = s
      · have hyes := qpA_yes r3 hne
        have Hyes := Lib.hid hyes
        have i0 : (qtx (qad (qpart s) 4) == s) = true := by simpa using hne
        clear hyes hne r3
        go_wp2_with (first
          | (with_reducible refine wpList_loadAd (o := ⟨some 38, _, _, _, _, _⟩) rfl _ rfl rfl r2 ?_)
          | (go_at_call 14; refine (qtext_any _ _ (Ht.out.below r4)).mono ?_; rintro ed w4 ⟨rfl, hb4⟩; have r14 := r1.bel hb4; have r24 := r2.bel hb4)
          | (with_reducible refine wpList_loadAd (o := ⟨some 43, _, _, _, _, _⟩) rfl _ rfl rfl r24 ?_)
          | ((with_reducible refine wpList_storeAd rfl _ _ rfl rfl rfl r14 ?_); intro w6 hB6 hS6))
        exact ret_adE Tryd.results15 rfl rfl hB6 rfl (QpPost.yes Hyes.out ((bel_tr r4 hb4).trans (hS6.below (by omega))))
      · have hno := qpA_ne hne
        have Hno := Lib.hid hno
        have i0 : (qtx (qad (qpart s) 4) == s) = false := by simpa using hne
        clear hno hne r3
        go_wp2_with (first
          | (with_reducible refine wpList_loadAd (o := ⟨some 38, _, _, _, _, _⟩) rfl _ rfl rfl r2 ?_)
          | (go_at_call 14; refine (qtext_any _ _ (Ht.out.below r4)).mono ?_; rintro ed w4 ⟨rfl, hb4⟩; have r14 := r1.bel hb4; have r24 := r2.bel hb4)
          | (with_reducible refine wpList_buildL rfl 24 _ rfl built_0 rfl ?_)
          | ((with_reducible refine wpList_storeAd rfl _ _ rfl rfl rfl r14 ?_); intro w6 hB6 hS6))
        exact ret_adE Tryd.results15 rfl rfl hB6 rfl (QpPost.no Hno.out ((bel_tr r4 hb4).trans (hS6.below (by omega))))
end Go.Proofs.YtbffkddlkfefoaaDoor

/- The contracts of quad.inBase, number, numbers, Loose. -/
namespace Go.Proofs.YtbffkddlkfefoaaDoor
open Go.RowKit
attribute [local go_sem] ba_get ext_take ext_drop ext_any ba_app

def inV : Option Int → Value
  | some n => .tuple #[.int .i64 n, .bool true]
  | none => .tuple #[.int .i64 0, .bool false]
theorem inn {o : Option Int} (h : o = none) : Ending.returned (.tuple #[.int .i64 0, .bool false]) = .returned (inV o) := by rw [h]; rfl
theorem ins {o : Option Int} {n : Int} (h : o = some n) : Ending.returned (.tuple #[.int .i64 n, .bool true]) = .returned (inV o) := by rw [h]; rfl
theorem hex_bd {c d : Int} (h : hex c = some d) : 0 ≤ d ∧ d ≤ 15 := by
  unfold hex at h
  split at h
  · injection h with h; omega
  · split at h
    · injection h with h; omega
    · split at h
      · injection h with h; omega
      · cases h
theorem inBs_none {b n : Int} {l : List UInt8} {k : Nat} (h : k < l.length) (hh : hex (l[k].toNat : Int) = none) : inBs b n (l.drop k) = none := by
  rw [List.drop_eq_getElem_cons h, inBs, hh]
theorem inBs_big {b n d : Int} {l : List UInt8} {k : Nat} (h : k < l.length) (hh : hex (l[k].toNat : Int) = some d) (hd : b ≤ d) : inBs b n (l.drop k) = none := by
  rw [List.drop_eq_getElem_cons h, inBs, hh]; exact if_pos hd
theorem inBs_next {b n d m : Int} {l : List UInt8} {k : Nat} (h : k < l.length) (hh : hex (l[k].toNat : Int) = some d) (hd : ¬ b ≤ d) (hm : min (n * b + d) 4294967296 = m) : inBs b n (l.drop k) = inBs b m (l.drop (k + 1)) := by
  rw [List.drop_eq_getElem_cons h, inBs, hh]; simp only; rw [if_neg hd, hm]
set_option maxRecDepth 100000 in
set_option maxHeartbeats 1000000 in
theorem inbase_any (l : List UInt8) (b : Nat) (w : World) (hb2 : b ≤ 16) (hl : l.length ≤ 1000000000) : Calls Tryd.prog 168 #[.string ⟨l.toArray⟩, .int .i64 (b : Int)] w fun e w' => e = .returned (inV (inBs (b : Int) 0 l)) ∧ w = w' := by
  go_enter Tryd.func168, Tryd.ntmps168
  go_wp2
  go_loop [6, 12] (fun n i => ∃ k m : Nat, k ≤ l.length ∧ m ≤ 4294967296 ∧ i = .int .i64 k ∧ n = .int .i64 m ∧ inBs (b : Int) 0 l = inBs (b : Int) (m : Int) (l.drop k)) (fun _ i => l.length - (intOf i).toNat)
  case atStart => exact ⟨0, 0, Nat.zero_le _, by omega, rfl, rfl, rfl⟩
  case round =>
    obtain ⟨k, m, hk, hm, rfl, rfl, hR⟩ := hrel
    have HR := Lib.hid hR
    clear hR
    by_cases hlt : k < l.length
    · have i1 : (k : Int) < (l.length : Int) := by omega
      have hc := u8lt l[k]
      cases hh : hex (l[k].toNat : Int) with
      | none =>
        have hfin : inBs (b : Int) 0 l = none := by rw [HR.out]; exact inBs_none hlt hh
        have Hfin := Lib.hid hfin
        have Hh := Lib.hid hh
        clear hfin hh
        go_wp2_with fail
        refine (hex_any _ _ (by omega) (by omega)).mono ?_
        rintro e w' ⟨rfl, rfl⟩
        rw [Hh.out]
        unfold hexV
        go_wp2
        go_ret2
        exact ⟨inn Hfin.out, rfl⟩
      | some d =>
        have hd := hex_bd hh
        by_cases hbd : (b : Int) ≤ d
        · have hfin : inBs (b : Int) 0 l = none := by rw [HR.out]; exact inBs_big hlt hh hbd
          have Hfin := Lib.hid hfin
          have Hh := Lib.hid hh
          clear hfin hh
          go_wp2_with fail
          refine (hex_any _ _ (by omega) (by omega)).mono ?_
          rintro e w' ⟨rfl, rfl⟩
          rw [Hh.out]
          unfold hexV
          go_wp2
          go_ret2
          exact ⟨inn Hfin.out, rfl⟩
        · have hJ : m * b ≤ 4294967296 * 16 := Nat.mul_le_mul hm hb2
          have hJe : (m : Int) * (b : Int) = ((m * b : Nat) : Int) := by omega
          generalize hJn : m * b = J at *
          have hnx : inBs (b : Int) 0 l = inBs (b : Int) (min ((J : Int) + d) 4294967296) (l.drop (k + 1)) := by rw [HR.out]; exact inBs_next hlt hh hbd (by rw [hJe])
          obtain ⟨M, hM, hM2⟩ : ∃ M : Nat, min ((J : Int) + d) 4294967296 = (M : Int) ∧ M ≤ 4294967296 := ⟨(min ((J : Int) + d) 4294967296).toNat, by omega, by omega⟩
          have Hnx := Lib.hid (hM ▸ hnx)
          have HM := Lib.hid hM
          have Hh := Lib.hid hh
          clear hnx hh hJn hM
          go_wp2_with fail
          refine (hex_any _ _ (by omega) (by omega)).mono ?_
          rintro e w' ⟨rfl, rfl⟩
          rw [Hh.out]
          unfold hexV
          go_wp2
          all_goals
            go_round
            case rel => exact ⟨k + 1, M, by omega, hM2, by go_num, by first | rw [← HM.out] | (rw [← HM.out]; congr 1; omega), Hnx.out⟩
            case measure => simp [intOf]; omega
    · have hfin : inBs (b : Int) 0 l = some (m : Int) := by rw [HR.out, List.drop_of_length_le (by omega)]; rfl
      have Hfin := Lib.hid hfin
      clear hfin
      go_wp2
      go_ret2
      exact ⟨ins Hfin.out, rfl⟩

theorem at0 {s : List UInt8} (h : 0 < s.length) : s[0]? = some s[0] := List.getElem?_eq_getElem h
theorem eq48 {c : UInt8} (h : ((c.toNat : Int) == 48) = true) : c = 48 := by
  have h2 : c.toNat = 48 := by have := beq_iff_eq.1 h; omega
  exact UInt8.toNat_inj.1 h2
theorem ne48 {c : UInt8} (h : ((c.toNat : Int) == 48) = false) : c ≠ 48 := by
  intro e; subst e; revert h; decide
set_option maxRecDepth 100000 in
set_option maxHeartbeats 1000000 in
theorem qn_a (s : List UInt8) (w : World) (hl : s.length ≤ 1000000000) (hpos : 0 < s.length) (i2 : ¬ (2 : Int) < (s.length : Int)) (e0 : ((s[0].toNat : Int) == 48) = true) : Calls Tryd.prog 119 #[.string ⟨s.toArray⟩] w fun e w' => e = .returned (inV (qnum s)) ∧ w = w' := by
  have hne : s ≠ [] := List.length_pos_iff.1 hpos
  have he : s.isEmpty = false := by simpa using hne
  have hq : qnum s = inBs (8 : Int) 0 (s) := by
    unfold qnum; rw [if_neg hne, if_neg (fun h => i2 (by omega)), at0 hpos, if_pos (by rw [eq48 e0])]
  have Hq := Lib.hid hq
  clear hq hne
  go_enter Tryd.func119, Tryd.ntmps119
  go_wp2_with fail
  refine (inbase_any (s) 8 _ (by omega) (by omega)).mono ?_
  rintro e w' ⟨rfl, rfl⟩
  have HQ : Hid (qnum s = inBs ((8 : Nat) : Int) 0 (s)) := Lib.hid Hq.out
  generalize inBs ((8 : Nat) : Int) 0 (s) = o at *
  cases o with
  | none =>
    unfold inV
    go_wp2
    go_ret2
    exact ⟨inn HQ.out, rfl⟩
  | some n =>
    unfold inV
    go_wp2
    go_ret2
    exact ⟨ins HQ.out, rfl⟩

set_option maxRecDepth 100000 in
set_option maxHeartbeats 1000000 in
theorem qn_b (s : List UInt8) (w : World) (hl : s.length ≤ 1000000000) (hpos : 0 < s.length) (i2 : ¬ (2 : Int) < (s.length : Int)) (e0 : ((s[0].toNat : Int) == 48) = false) : Calls Tryd.prog 119 #[.string ⟨s.toArray⟩] w fun e w' => e = .returned (inV (qnum s)) ∧ w = w' := by
  have hne : s ≠ [] := List.length_pos_iff.1 hpos
  have he : s.isEmpty = false := by simpa using hne
  have hq : qnum s = inBs (10 : Int) 0 (s) := by
    unfold qnum; rw [if_neg hne, if_neg (fun h => i2 (by omega)), at0 hpos, if_neg (fun h => ne48 e0 (by injection h))]
  have Hq := Lib.hid hq
  clear hq hne
  go_enter Tryd.func119, Tryd.ntmps119
  go_wp2_with fail
  refine (inbase_any (s) 10 _ (by omega) (by omega)).mono ?_
  rintro e w' ⟨rfl, rfl⟩
  have HQ : Hid (qnum s = inBs ((10 : Nat) : Int) 0 (s)) := Lib.hid Hq.out
  generalize inBs ((10 : Nat) : Int) 0 (s) = o at *
  cases o with
  | none =>
    unfold inV
    go_wp2
    go_ret2
    exact ⟨inn HQ.out, rfl⟩
  | some n =>
    unfold inV
    go_wp2
    go_ret2
    exact ⟨ins HQ.out, rfl⟩

set_option maxRecDepth 100000 in
set_option maxHeartbeats 1000000 in
theorem qn_c (s : List UInt8) (w : World) (hl : s.length ≤ 1000000000) (hpos : 0 < s.length) (i2 : (2 : Int) < (s.length : Int)) (e0 : ((s[0].toNat : Int) == 48) = false) : Calls Tryd.prog 119 #[.string ⟨s.toArray⟩] w fun e w' => e = .returned (inV (qnum s)) ∧ w = w' := by
  have hne : s ≠ [] := List.length_pos_iff.1 hpos
  have he : s.isEmpty = false := by simpa using hne
  have hq : qnum s = inBs (10 : Int) 0 (s) := by
    unfold qnum; rw [if_neg hne, if_neg (fun h => ne48 e0 (by have := h.2.1; rw [at0 hpos] at this; injection this)), at0 hpos, if_neg (fun h => ne48 e0 (by injection h))]
  have Hq := Lib.hid hq
  clear hq hne
  go_enter Tryd.func119, Tryd.ntmps119
  go_wp2_with fail
  refine (inbase_any (s) 10 _ (by omega) (by omega)).mono ?_
  rintro e w' ⟨rfl, rfl⟩
  have HQ : Hid (qnum s = inBs ((10 : Nat) : Int) 0 (s)) := Lib.hid Hq.out
  generalize inBs ((10 : Nat) : Int) 0 (s) = o at *
  cases o with
  | none =>
    unfold inV
    go_wp2
    go_ret2
    exact ⟨inn HQ.out, rfl⟩
  | some n =>
    unfold inV
    go_wp2
    go_ret2
    exact ⟨ins HQ.out, rfl⟩

set_option maxRecDepth 100000 in
set_option maxHeartbeats 1000000 in
theorem qn_d (s : List UInt8) (w : World) (hl : s.length ≤ 1000000000) (hpos : 0 < s.length) (i2 : (2 : Int) < (s.length : Int)) (e0 : ((s[0].toNat : Int) == 48) = true) (e1 : (((s[1]'(by omega)).toNat : Int) == 120) = true) : Calls Tryd.prog 119 #[.string ⟨s.toArray⟩] w fun e w' => e = .returned (inV (qnum s)) ∧ w = w' := by
  have hne : s ≠ [] := List.length_pos_iff.1 hpos
  have he : s.isEmpty = false := by simpa using hne
  have hq : qnum s = inBs (16 : Int) 0 (s.drop 2) := by
    unfold qnum; rw [if_neg hne, if_pos ⟨by omega, by rw [at0 hpos, eq48 e0], .inl (by rw [List.getElem?_eq_getElem (by omega)]; congr 1; exact UInt8.toNat_inj.1 (by have := beq_iff_eq.1 e1; show _ = 120; omega))⟩]
  have Hq := Lib.hid hq
  clear hq hne
  go_enter Tryd.func119, Tryd.ntmps119
  go_wp2_with fail
  refine (inbase_any (s.drop 2) 16 _ (by omega) (by rw [List.length_drop]; omega)).mono ?_
  rintro e w' ⟨rfl, rfl⟩
  have HQ : Hid (qnum s = inBs ((16 : Nat) : Int) 0 (s.drop 2)) := Lib.hid Hq.out
  generalize inBs ((16 : Nat) : Int) 0 (s.drop 2) = o at *
  cases o with
  | none =>
    unfold inV
    go_wp2
    go_ret2
    exact ⟨inn HQ.out, rfl⟩
  | some n =>
    unfold inV
    go_wp2
    go_ret2
    exact ⟨ins HQ.out, rfl⟩

set_option maxRecDepth 100000 in
set_option maxHeartbeats 1000000 in
theorem qn_e (s : List UInt8) (w : World) (hl : s.length ≤ 1000000000) (hpos : 0 < s.length) (i2 : (2 : Int) < (s.length : Int)) (e0 : ((s[0].toNat : Int) == 48) = true) (e1 : (((s[1]'(by omega)).toNat : Int) == 120) = false) (e2 : (((s[1]'(by omega)).toNat : Int) == 88) = true) : Calls Tryd.prog 119 #[.string ⟨s.toArray⟩] w fun e w' => e = .returned (inV (qnum s)) ∧ w = w' := by
  have hne : s ≠ [] := List.length_pos_iff.1 hpos
  have he : s.isEmpty = false := by simpa using hne
  have hq : qnum s = inBs (16 : Int) 0 (s.drop 2) := by
    unfold qnum; rw [if_neg hne, if_pos ⟨by omega, by rw [at0 hpos, eq48 e0], .inr (by rw [List.getElem?_eq_getElem (by omega)]; congr 1; exact UInt8.toNat_inj.1 (by have := beq_iff_eq.1 e2; show _ = 88; omega))⟩]
  have Hq := Lib.hid hq
  clear hq hne
  go_enter Tryd.func119, Tryd.ntmps119
  go_wp2_with fail
  refine (inbase_any (s.drop 2) 16 _ (by omega) (by rw [List.length_drop]; omega)).mono ?_
  rintro e w' ⟨rfl, rfl⟩
  have HQ : Hid (qnum s = inBs ((16 : Nat) : Int) 0 (s.drop 2)) := Lib.hid Hq.out
  generalize inBs ((16 : Nat) : Int) 0 (s.drop 2) = o at *
  cases o with
  | none =>
    unfold inV
    go_wp2
    go_ret2
    exact ⟨inn HQ.out, rfl⟩
  | some n =>
    unfold inV
    go_wp2
    go_ret2
    exact ⟨ins HQ.out, rfl⟩

set_option maxRecDepth 100000 in
set_option maxHeartbeats 1000000 in
theorem qn_f (s : List UInt8) (w : World) (hl : s.length ≤ 1000000000) (hpos : 0 < s.length) (i2 : (2 : Int) < (s.length : Int)) (e0 : ((s[0].toNat : Int) == 48) = true) (e1 : (((s[1]'(by omega)).toNat : Int) == 120) = false) (e2 : (((s[1]'(by omega)).toNat : Int) == 88) = false) : Calls Tryd.prog 119 #[.string ⟨s.toArray⟩] w fun e w' => e = .returned (inV (qnum s)) ∧ w = w' := by
  have hne : s ≠ [] := List.length_pos_iff.1 hpos
  have he : s.isEmpty = false := by simpa using hne
  have hq : qnum s = inBs (8 : Int) 0 (s) := by
    unfold qnum; rw [if_neg hne, if_neg, at0 hpos, if_pos (by rw [eq48 e0])]
    rintro ⟨_, _, h | h⟩
    · rw [List.getElem?_eq_getElem (by omega)] at h; injection h with h; rw [h] at e1; revert e1; decide
    · rw [List.getElem?_eq_getElem (by omega)] at h; injection h with h; rw [h] at e2; revert e2; decide
  have Hq := Lib.hid hq
  clear hq hne
  go_enter Tryd.func119, Tryd.ntmps119
  go_wp2_with fail
  refine (inbase_any (s) 8 _ (by omega) (by omega)).mono ?_
  rintro e w' ⟨rfl, rfl⟩
  have HQ : Hid (qnum s = inBs ((8 : Nat) : Int) 0 (s)) := Lib.hid Hq.out
  generalize inBs ((8 : Nat) : Int) 0 (s) = o at *
  cases o with
  | none =>
    unfold inV
    go_wp2
    go_ret2
    exact ⟨inn HQ.out, rfl⟩
  | some n =>
    unfold inV
    go_wp2
    go_ret2
    exact ⟨ins HQ.out, rfl⟩

set_option maxRecDepth 100000 in
theorem qnumber_any (s : List UInt8) (w : World) (hl : s.length ≤ 1000000000) : Calls Tryd.prog 119 #[.string ⟨s.toArray⟩] w fun e w' => e = .returned (inV (qnum s)) ∧ w = w' := by
  rcases Nat.eq_zero_or_pos s.length with h0 | hpos
  · have : s = [] := List.eq_nil_of_length_eq_zero h0
    subst this
    go_enter Tryd.func119, Tryd.ntmps119
    go_wp2
    go_ret2
    exact ⟨rfl, rfl⟩
  · by_cases i2 : (2 : Int) < (s.length : Int)
    · cases e0 : ((s[0].toNat : Int) == 48)
      · exact qn_c s w hl hpos i2 e0
      · cases e1 : (((s[1]'(by omega)).toNat : Int) == 120)
        · cases e2 : (((s[1]'(by omega)).toNat : Int) == 88)
          · exact qn_f s w hl hpos i2 e0 e1 e2
          · exact qn_e s w hl hpos i2 e0 e1 e2
        · exact qn_d s w hl hpos i2 e0 e1
    · cases e0 : ((s[0].toNat : Int) == 48)
      · exact qn_b s w hl hpos i2 e0
      · exact qn_a s w hl hpos i2 e0
end Go.Proofs.YtbffkddlkfefoaaDoor

/- The contracts of quad.numbers and quad.Loose. -/
namespace Go.Proofs.YtbffkddlkfefoaaDoor
open Go.RowKit
attribute [local go_sem] ba_get ext_take ext_drop ext_any ba_app

theorem inBs_bd {b : Int} (hb : 0 ≤ b) (l : List UInt8) : ∀ (n m : Int), 0 ≤ n → n ≤ 4294967296 → inBs b n l = some m → 0 ≤ m ∧ m ≤ 4294967296 := by
  induction l with
  | nil => intro n m h0 h1 h; injection h with h; omega
  | cons c l ih =>
    intro n m h0 h1 h
    rw [inBs] at h
    cases hh : hex (c.toNat : Int) with
    | none => rw [hh] at h; cases h
    | some d =>
      have hd := hex_bd hh
      rw [hh] at h
      simp only at h
      split at h
      · cases h
      · have : 0 ≤ n * b := Int.mul_nonneg h0 hb
        exact ih _ m (by omega) (by omega) h
theorem qnum_bd {s : List UInt8} {n : Int} (h : qnum s = some n) : 0 ≤ n ∧ n ≤ 4294967296 := by
  unfold qnum at h
  split at h
  · cases h
  · split at h
    · exact inBs_bd (by omega) _ 0 n (by omega) (by omega) h
    · split at h <;> exact inBs_bd (by omega) _ 0 n (by omega) (by omega) h
theorem spB_step (r : List UInt8) : spB 46 [] r = hdB 46 r :: (if hasB 46 r = true then spB 46 [] (tlB 46 r) else []) := by
  cases h : hasB 46 r with
  | true => rw [spB_has h]; rfl
  | false => rw [spB_not h, (split_not h).1]; rfl
theorem mapM_snoc {P : List (List UInt8)} {D : List Int} {x : List UInt8} {n : Int} (h : P.mapM qnum = some D) (hx : qnum x = some n) : (P ++ [x]).mapM qnum = some (D ++ [n]) := by
  rw [List.mapM_append, h]
  simp [hx]
theorem mapM_bad {P Q : List (List UInt8)} {D : List Int} {x : List UInt8} (h : P.mapM qnum = some D) (hx : qnum x = none) : (P ++ x :: Q).mapM qnum = none := by
  rw [List.mapM_append, h]
  simp [hx]
theorem mapM_len {P : List (List UInt8)} : ∀ {D : List Int}, P.mapM qnum = some D → P.length = D.length := by
  induction P with
  | nil => intro D h; simp at h; subst h; rfl
  | cons x P ih =>
    intro D h
    simp only [List.mapM_cons, Option.bind_eq_bind, Option.pure_def] at h
    cases hx : qnum x with
    | none => simp [hx] at h
    | some n =>
      cases hp : P.mapM qnum with
      | none => simp [hx, hp] at h
      | some E =>
        simp [hx, hp] at h
        subst h
        simp [ih hp]
theorem mapM_bd {P : List (List UInt8)} : ∀ {D : List Int}, P.mapM qnum = some D → ∀ n ∈ D, 0 ≤ n ∧ n ≤ 4294967296 := by
  induction P with
  | nil => intro D h; simp at h; subst h; intro n hn; cases hn
  | cons x P ih =>
    intro D h
    simp only [List.mapM_cons, Option.bind_eq_bind, Option.pure_def] at h
    cases hx : qnum x with
    | none => simp [hx] at h
    | some n =>
      cases hp : P.mapM qnum with
      | none => simp [hx, hp] at h
      | some E =>
        simp [hx, hp] at h
        subst h
        intro m hm
        rcases List.mem_cons.1 hm with rfl | hm
        · exact qnum_bd hx
        · exact ih hp m hm
def NumsPost (w : World) (s : List UInt8) (e : Ending) (w' : World) : Prop :=
  (qnums s = none ∧ e = .returned (.tuple #[.slice none 0 0, .bool false]) ∨ ∃ D v, qnums s = some D ∧ e = .returned (.tuple #[v, .bool true]) ∧ Sl w' 1 v D.length (D.map (Value.int .i64))) ∧ Below w.heap.size w w'
def NumsRel (w : World) (s r : List UInt8) (more : Bool) (v : Value) (wr : World) : Prop :=
  ∃ (P : List (List UInt8)) (D : List Int), spB 46 [] s = P ++ (if more = true then spB 46 [] r else []) ∧ P.mapM qnum = some D ∧ D.length ≤ 4 ∧ r.length ≤ s.length ∧ wr.ownsRow w.heap.size 3 1 v D.length (D.map (Value.int .i64)) ∧ Below w.heap.size w wr
theorem qnums_bad {s : List UInt8} {P Q : List (List UInt8)} {D : List Int} {x : List UInt8} (h : spB 46 [] s = P ++ x :: Q) (hD : P.mapM qnum = some D) (hx : qnum x = none) : qnums s = none := by
  unfold qnums
  rw [h, mapM_bad hD hx]
  split <;> rfl
theorem qnums_many {s : List UInt8} {P Q : List (List UInt8)} {D : List Int} {x : List UInt8} (h : spB 46 [] s = P ++ x :: Q) (hD : P.mapM qnum = some D) (hx : 4 ≤ D.length) : qnums s = none := by
  unfold qnums
  rw [h, if_neg]
  have := mapM_len hD
  simp
  omega
theorem qnums_done {s : List UInt8} {P : List (List UInt8)} {D : List Int} (h : spB 46 [] s = P) (hD : P.mapM qnum = some D) (hx : D.length ≤ 4) : qnums s = some D := by
  unfold qnums
  rw [h, if_pos (by have := mapM_len hD; omega), hD]

set_option maxRecDepth 100000 in
set_option maxHeartbeats 1000000 in
theorem numbers_any (s : List UInt8) (w : World) (hl : s.length ≤ 1000000000) : Calls Tryd.prog 63 #[.string ⟨s.toArray⟩] w (NumsPost w s) := by
  go_enter Tryd.func63, Tryd.ntmps63
  go_wp2
  go_loopw [0, 4, 5] (fun rv v m wr => ∃ (r : List UInt8) (more : Bool), rv = .string ⟨r.toArray⟩ ∧ m = .bool more ∧ NumsRel w s r more v wr) (fun rv _ m _ => if boolOf m = true then strLen rv + 1 else 0)
  case atStart => exact ⟨s, true, rfl, rfl, [], [], rfl, rfl, by simp, Nat.le_refl _, World.ownsRow_nil _ _ _ _, Below.refl _ _⟩
  case round =>
    obtain ⟨r, more, rfl, rfl, P, D, h1, h2, h3, h4, h5, h6⟩ := hrel
    have H1 := Lib.hid h1
    have H2 := Lib.hid h2
    have hsz := h6.size
    clear h1 h2
    cases more with
    | false =>
      have hq : qnums s = some D := qnums_done (by rw [H1.out]; simp) H2.out h3
      have hsl := Sl.own h5
      have Hq := Lib.hid hq
      have Hsl := Lib.hid hsl
      clear hq hsl
      go_wp2
      go_ret2
      exact ⟨.inr ⟨D, _, Hq.out, rfl, Hsl.out⟩, h6⟩
    | true =>
      have hst : spB 46 [] s = P ++ hdB 46 r :: (if hasB 46 r = true then spB 46 [] (tlB 46 r) else []) := by rw [H1.out, if_pos rfl, spB_step]
      have Hst := Lib.hid hst
      have q1 := hdB_len 46 r
      have q2 := tlB_len 46 r
      have q3 : hasB 46 r = true → (tlB 46 r).length < r.length := fun h => by have := congrArg List.length (split_has h); rw [List.length_append, List.length_cons] at this; omega
      have Q3 := Lib.hid q3
      clear hst q3
      cases hn : qnum (hdB 46 r) with
      | none =>
        have hq := qnums_bad Hst.out H2.out hn
        have Hq := Lib.hid hq
        have Hn := Lib.hid hn
        clear hq hn
        go_wp2_with (first
          | (go_at_call 61; refine (cut_any 46 _ _ (by omega)).mono ?_; rintro ed w4 ⟨rfl, hb4⟩; rw [cutV_eq])
          | (go_at_call 119; refine (qnumber_any _ _ (by omega)).mono ?_; rintro ed w5 ⟨rfl, rfl⟩; rw [Hn.out]; unfold inV))
        go_ret2
        exact ⟨.inl ⟨Hq.out, rfl⟩, bel_tr h6 hb4⟩
      | some n =>
        have hnb := qnum_bd hn
        have Hn := Lib.hid hn
        by_cases hD4 : D.length = 4
        · have hq := qnums_many Hst.out H2.out (by omega)
          have Hq := Lib.hid hq
          have j4 : ((D.length : Int) == 4) = true := by simp [hD4]
          clear hq hn hD4
          obtain ⟨A9, c9, hv9, _⟩ := (Sl.own h5).any
          subst hv9
          go_wp2_with (first
            | (go_at_call 61; refine (cut_any 46 _ _ (by omega)).mono ?_; rintro ed w4 ⟨rfl, hb4⟩; rw [cutV_eq])
            | (go_at_call 119; refine (qnumber_any _ _ (by omega)).mono ?_; rintro ed w5 ⟨rfl, rfl⟩; rw [Hn.out]; unfold inV))
          go_ret2
          exact ⟨.inl ⟨Hq.out, rfl⟩, bel_tr h6 hb4⟩
        · have j4 : ((D.length : Int) == 4) = false := by simp; omega
          clear hn
          obtain ⟨A9, c9, hv9, _⟩ := (Sl.own h5).any
          subst hv9
          generalize hm : hasB 46 r = more2 at *
          have Hm := Lib.hid hm
          clear hm
          go_wp2_with (first
            | (go_at_call 61; refine (cut_any 46 _ _ (by omega)).mono ?_; rintro ed w4 ⟨rfl, hb4⟩; rw [cutV_eq, Hm.out]; have h54 := own_below h5 hb4; have hsz4 := hb4.size)
            | (go_at_call 119; refine (qnumber_any _ _ (by omega)).mono ?_; rintro ed w5 ⟨rfl, rfl⟩; rw [Hn.out]; unfold inV)
            | (at_builtin; refine wpList_appLit rfl _ _ _ rfl elt_ints rfl h54 [.int .i64 n] (m := 1) rfl rfl (by simp [Value.oneCell']) (by omega) (by omega) (by omega) ?_; intro v1 w6 ho6 hb6 _))
          have R : NumsRel w s (tlB 46 r) more2 v1 w6 := ⟨P ++ [hdB 46 r], D ++ [n], by rw [Hst.out]; simp, mapM_snoc H2.out Hn.out, by simp; omega, by omega, by simpa using ho6, (bel_tr h6 hb4).trans hb6⟩
          go_roundw
          case rel => exact ⟨_, _, rfl, rfl, R⟩
          case measure =>
            simp only [strLen_mk, boolOf]
            cases more2 with
            | true => have := Q3.out rfl; simp; omega
            | false => simp
end Go.Proofs.YtbffkddlkfefoaaDoor

/- The contract of quad.Loose. -/
namespace Go.Proofs.YtbffkddlkfefoaaDoor
open Go.RowKit
attribute [local go_sem] ba_get ext_take ext_drop ext_any ba_app

theorem numbers_none (s : List UInt8) (w : World) (hl : s.length ≤ 1000000000) (h : qnums s = none) : Calls Tryd.prog 63 #[.string ⟨s.toArray⟩] w fun e w' => e = .returned (.tuple #[.slice none 0 0, .bool false]) ∧ Below w.heap.size w w' :=
  (numbers_any s w hl).mono fun _ _ ⟨h1, h2⟩ => by
    rcases h1 with ⟨_, h1⟩ | ⟨D, v, h1, _⟩
    · exact ⟨h1, h2⟩
    · rw [h] at h1; cases h1
theorem numbers_some (s : List UInt8) (w : World) (hl : s.length ≤ 1000000000) {D : List Int} (h : qnums s = some D) : Calls Tryd.prog 63 #[.string ⟨s.toArray⟩] w fun e w' => ∃ v, e = .returned (.tuple #[v, .bool true]) ∧ Sl w' 1 v D.length (D.map (Value.int .i64)) ∧ Below w.heap.size w w' :=
  (numbers_any s w hl).mono fun _ _ ⟨h1, h2⟩ => by
    rcases h1 with ⟨h1, _⟩ | ⟨E, v, h1, h3, h4⟩
    · rw [h] at h1; cases h1
    · rw [h] at h1; injection h1 with h1; subst h1; exact ⟨v, h3, h4, h2⟩
theorem qnums_pos {s : List UInt8} {D : List Int} (h : qnums s = some D) : 1 ≤ D.length ∧ D.length ≤ 4 ∧ ∀ n ∈ D, 0 ≤ n ∧ n ≤ 4294967296 := by
  unfold qnums at h
  split at h
  · next h4 =>
    have h1 := mapM_len h
    have h2 := List.length_pos_iff.2 (spB_ne 46 s [])
    exact ⟨by omega, by omega, mapM_bd h⟩
  · cases h
def LoPost (w : World) (s : List UInt8) (e : Ending) (w' : World) : Prop := e = .returned (adS (loose s)) ∧ Below w.heap.size w w'
theorem LoPost.no {w w' : World} {s : List UInt8} {c : Int} (h : loose s = .inl c) (hb : Below w.heap.size w w') : LoPost w s (.returned (.tuple #[.agg (adA ad0), .int .i64 c])) w' := ⟨by rw [h]; rfl, hb⟩
theorem LoPost.yes {w w' : World} {s : List UInt8} {x : Ad} (h : loose s = .inr x) (hb : Below w.heap.size w w') : LoPost w s (.returned (.tuple #[.agg (adA x), .int .i64 0])) w' := ⟨by rw [h]; rfl, hb⟩
theorem loose_some {s : List UInt8} {D : List Int} {m : Nat} (h : qnums s = some D) (hm : D.length = m + 1) : loose s = if (D.take m).all (fun n => decide (n ≤ 255)) = true then (if D.getD m 0 < 256 ^ (4 - m) then .inr (qtail m (D.getD m 0) (4 - m) (qahead D m)) else .inl 4) else .inl 4 := by
  unfold loose
  rw [h]
  simp only [hm, Nat.add_sub_cancel]
def LoC (D : List Int) (b1 o1 : Nat) (wr : World) : Prop := ∀ (j : Nat) (hj : j < D.length), wr.cell? ⟨b1, o1 + j, none⟩ = some (.int .i64 D[j])
theorem LoC.stays {D : List Int} {b1 o1 g : Nat} {w w' : World} (h : LoC D b1 o1 w) (hs : Stays g w w') (hne : b1 ≠ g) : LoC D b1 o1 w' := fun j hj => (World.cell?_of_block (hs.block b1 hne)).trans (h j hj)
def LoRel (w : World) (D : List Int) (b1 o1 g2 g6 k : Nat) (wr : World) : Prop :=
  LoC D b1 o1 wr ∧ Bk wr g2 24 (adA ad0) ∧ Bk wr g6 24 (adA (qahead D k)) ∧ (D.take k).all (fun n => decide (n ≤ 255)) = true ∧ Below w.heap.size w wr
theorem take_all_next {D : List Int} {k : Nat} (hk : k < D.length) (h1 : (D.take k).all (fun n => decide (n ≤ 255)) = true) (h2 : D[k] ≤ 255) : (D.take (k + 1)).all (fun n => decide (n ≤ 255)) = true := by
  rw [List.take_succ_eq_append_getElem hk, List.all_append, h1]
  simp [h2]
theorem take_all_bad {D : List Int} {k m : Nat} (hk : k < m) (hm : m < D.length) (h2 : ¬ D[k]'(by omega) ≤ 255) : ¬ (D.take m).all (fun n => decide (n ≤ 255)) = true := by
  intro h
  rw [List.all_eq_true] at h
  have := h (D[k]'(by omega)) (List.mem_iff_getElem.2 ⟨k, by rw [List.length_take]; omega, by rw [List.getElem_take]⟩)
  exact h2 (by simpa using this)

theorem shl_at {k : Nat} (h : k ≤ 3) : wrap64 (2 ^ (8 * (4 - k))) = 256 ^ (4 - k) := by
  rcases (show k = 0 ∨ k = 1 ∨ k = 2 ∨ k = 3 by omega) with rfl | rfl | rfl | rfl <;> decide +kernel
def QtRel (w : World) (s : List UInt8) (m g2 g6 : Nat) (nv iv : Value) (wr : World) : Prop :=
  ∃ (k : Nat) (n : Int) (a : Ad), m + k ≤ 4 ∧ 0 ≤ n ∧ n ≤ 4294967296 ∧ nv = .int .i64 n ∧ iv = .int .i64 ((m : Int) + (k : Int) - 1) ∧ loose s = .inr (qtail m n k a) ∧ Bk wr g2 24 (adA ad0) ∧ Bk wr g6 24 (adA a) ∧ Below w.heap.size w wr
set_option maxRecDepth 100000 in
set_option maxHeartbeats 1000000 in
theorem loose_any (s : List UInt8) (w : World) (hl : s.length ≤ 1000000000) : Calls Tryd.prog 16 #[.string ⟨s.toArray⟩] w (LoPost w s) := by
  cases hq : qnums s with
  | none =>
    have hlo : loose s = .inl 5 := by unfold loose; rw [hq]
    have Hlo := Lib.hid hlo
    have Hq := Lib.hid hq
    clear hq hlo
    go_enter Tryd.func16, Tryd.ntmps16
    go_wp2_with (first
      | ((with_reducible refine wpList_allocAd (o := ⟨some 2, _, _, _, _, _⟩) rfl rfl ?_); intro g2 w1 hg hB2 hb1 hs; have hg2 : w.heap.size ≤ g2 := Nat.le_of_eq hg.symm; clear hg hs)
      | (go_at_call 63; refine (numbers_none s _ hl Hq.out).mono ?_; rintro e w2 ⟨rfl, hb2⟩; have hB22 := hB2.bel hb2)
      | (with_reducible refine wpList_buildL rfl 24 _ rfl built_0 rfl ?_)
      | ((with_reducible refine wpList_storeAd rfl _ _ rfl rfl rfl hB22 ?_); intro w3 hB3 hS3))
    exact ret_adE Tryd.results16 rfl rfl hB3 rfl (LoPost.no Hlo.out ((bel_tr hb1 hb2).trans (hS3.below hg2)))
  | some D =>
    obtain ⟨hd1, hd4, hdb⟩ := qnums_pos hq
    obtain ⟨m, hm⟩ : ∃ m, D.length = m + 1 := ⟨D.length - 1, by omega⟩
    have hlo := loose_some hq hm
    have Hlo := Lib.hid hlo
    have Hq := Lib.hid hq
    have Hdb := Lib.hid hdb
    have Hm := Lib.hid hm
    have hm3 : m ≤ 3 := by omega
    clear hlo hq hdb hd1 hd4
    go_enter Tryd.func16, Tryd.ntmps16
    go_wp2_with (first
      | ((with_reducible refine wpList_allocAd (o := ⟨some 2, _, _, _, _, _⟩) rfl rfl ?_); intro g2 w1 hg hB2 hb1 hs; have hg2 : w.heap.size ≤ g2 := Nat.le_of_eq hg.symm; clear hg hs)
      | (go_at_call 63; refine (numbers_some s _ hl Hq.out).mono ?_; rintro e w2 ⟨v, rfl, hsl, hb2⟩; have hB22 := hB2.bel hb2; rw [Hm.out] at hsl
         obtain ⟨b1, o1, c1, rfl, hc1, hb1', hcD⟩ := hsl.pos (by omega)
         have HcD := Lib.hid hcD
         clear hcD hsl)
      | (with_reducible refine wpList_buildL rfl 24 _ rfl built_4 rfl ?_)
      | ((with_reducible refine wpList_allocAd (o := ⟨some 6, _, _, _, _, _⟩) rfl rfl ?_); intro g6 w3 hg hB6 hb3 hs; have hg6 : w2.heap.size ≤ g6 := Nat.le_of_eq hg.symm; clear hg hs)
      | ((with_reducible refine wpList_storeAd rfl _ _ rfl rfl rfl hB6 ?_); intro w4 hB6' hS4))
    have hg26 : g2 < g6 := by have := hB22.lt; omega
    have hb14 : b1 < w4.heap.size := by have := hb3.size; have := hS4.size; omega
    have hne6 : b1 ≠ g6 := by omega
    have hC2 : LoC D b1 o1 w2 := fun j hj => sl_at HcD.out hj
    have hC4 : LoC D b1 o1 w4 := LoC.stays (g := g6) (fun j hj => (bel_cells hb3 hb1' (o1 + j)).trans (hC2 j hj)) hS4 hne6
    have R0 : LoRel w D b1 o1 g2 g6 0 w4 := ⟨hC4, (hB22.bel hb3).stays hS4 (by omega), hB6', rfl, ((bel_tr hb1 hb2).trans (hb3.mono (by have := (bel_tr hb1 hb2).size; omega))).trans (hS4.below (by omega))⟩
    have hg6w : w.heap.size ≤ g6 := by omega
    clear hB2 hB22 hB6 hB6' hS4 hb1 hb2 hb3 hC2 hC4 HcD hb1'
    go_loopw [28] (fun i wr => ∃ k : Nat, k ≤ m ∧ i = .int .i64 k ∧ LoRel w D b1 o1 g2 g6 k wr) (fun i _ => m - (intOf i).toNat)
    case atStart => exact ⟨0, Nat.zero_le _, rfl, R0⟩
    case round =>
      obtain ⟨k, hk, rfl, r0, r1, r2, r3, r4⟩ := hrel
      clear R0
      by_cases hlt : k < m
      · have j1 : (k : Int) < (m : Int) := by omega
        have hkD : k < D.length := by rw [Hm.out]; omega
        have q1 := r0 k hkD
        have hnb := Hdb.out D[k] (List.getElem_mem _)
        have hgd : D.getD k 0 = D[k] := by rw [List.getD_eq_getElem?_getD, List.getElem?_eq_getElem hkD]; rfl
        have Hgd := Lib.hid hgd
        have R0 := Lib.hid r0
        have R3 := Lib.hid r3
        clear hgd r0 r3
        by_cases hn : D[k] ≤ 255
        · have hnx := take_all_next hkD R3.out hn
          have Hnx := Lib.hid hnx
          clear hnx
          have hu : (UInt8.ofNat (D.getD k 0).toNat).toNat = D[k].toNat := by rw [Hgd.out]; exact UInt8.toNat_ofNat_of_lt' (by show D[k].toNat < 256; omega)
          have Hu := Lib.hid hu
          have Hset := Lib.hid (adA_setB (qahead D k) (show k < 16 by omega) (UInt8.ofNat (D.getD k 0).toNat))
          clear hu
          have q4 := r2.cell (1 + k)
          rw [Nat.add_comm 1 k, adA_ip _ (by omega), Nat.add_comm k 1] at q4
          have f4 := r2.free (1 + k)
          generalize hn0 : D[k] = n at *
          have Hn0 := Lib.hid hn0
          clear hn0
          go_wp2
          go_roundw
          case rel =>
            refine ⟨k + 1, by omega, by go_num, R0.out.stays (Stays.cell _ _ _ _) hne6, r1.far (by show g2 ≠ g6; omega) _, ?_, Hnx.out, r4.setCell (show w.heap.size ≤ g6 by omega) _⟩
            have := r2.set_ (1 + k) (.int .u8 n)
            have e : (((UInt8.ofNat (D.getD k 0).toNat).toNat : Nat) : Int) = n := by rw [Hu.out]; omega
            rw [Nat.add_comm 1 k, ← e, Hset.out] at this
            rw [Nat.add_comm 1 k, ← e]
            exact this
          case measure => simp [intOf]; omega
        · have hbad : loose s = .inl 4 := by rw [Hlo.out, if_neg (take_all_bad hlt (by rw [Hm.out]; omega) hn)]
          have Hbad := Lib.hid hbad
          clear hbad
          have j2 : 255 < D[k] := by omega
          go_wp2_with (first
            | (with_reducible refine wpList_buildL rfl 24 _ rfl built_0 rfl ?_)
            | ((with_reducible refine wpList_storeAd rfl _ _ rfl rfl rfl r1 ?_); intro w5 hB5 hS5))
          exact ret_adE Tryd.results16 rfl rfl hB5 rfl (LoPost.no Hbad.out (r4.trans (hS5.below hg2)))
      · have hkm : k = m := by omega
        subst hkm
        have j1 : ¬ (k : Int) < (k : Int) := by omega
        have hkD : k < D.length := by rw [Hm.out]; omega
        have q1 := r0 k hkD
        have hnb := Hdb.out D[k] (List.getElem_mem _)
        have hgd : D.getD k 0 = D[k] := by rw [List.getD_eq_getElem?_getD, List.getElem?_eq_getElem hkD]; rfl
        have hlo2 : loose s = if D[k] < 256 ^ (4 - k) then .inr (qtail k D[k] (4 - k) (qahead D k)) else .inl 4 := by rw [Hlo.out, if_pos r3, hgd]
        have Hlo2 := Lib.hid hlo2
        clear hgd hlo2 r0 r3 Hlo Hdb Hq
        generalize D[k] = n at *
        generalize qahead D k = A0 at *
        have i0 : (0 : Int) ≤ (k : Int) := by omega
        have hT := shl_at hm3
        have HT := Lib.hid hT
        obtain ⟨T, hTe⟩ : ∃ T : Int, T = 256 ^ (4 - k) := ⟨_, rfl⟩
        rw [← hTe] at hT Hlo2
        clear hTe HT
        by_cases hnT : n < T
        · have hyes : loose s = .inr (qtail k n (4 - k) A0) := by rw [Hlo2.out, if_pos hnT]
          have Hyes := Lib.hid hyes
          have j3 : ¬ T ≤ n := by omega
          clear hyes hnT
          go_wp2
          go_loopw [10, 11] (fun nv iv wz => QtRel w s k g2 g6 nv iv wz) (fun _ i _ => (intOf i - (k : Int) + 1).toNat)
          case atStart => exact ⟨4 - k, n, A0, by omega, hnb.1, hnb.2, rfl, by congr 1; omega, Hyes.out, r1, r2, r4⟩
          case round =>
            obtain ⟨k2, n2, a2, hk2, hn1, hn2, rfl, rfl, hlo3, s1, s2, s4⟩ := hrel
            have Hlo3 := Lib.hid hlo3
            clear hlo3 hT r1 r2 r4 q1
            rcases Nat.eq_zero_or_pos k2 with h0 | h0
            · have j4 : ¬ (k : Int) ≤ (k : Int) + (k2 : Int) - 1 := by omega
              have hfin : loose s = .inr a2 := by rw [Hlo3.out, h0]; rfl
              have Hfin := Lib.hid hfin
              clear hfin h0
              go_wp2_with (first
                | (with_reducible refine wpList_loadAd rfl _ rfl rfl s2 ?_)
                | ((with_reducible refine wpList_storeAd rfl _ _ rfl rfl rfl s1 ?_); intro w5 hB5 hS5))
              exact ret_adE Tryd.results16 rfl rfl hB5 rfl (LoPost.yes Hfin.out (s4.trans (hS5.below hg2)))
            · obtain ⟨k3, rfl⟩ : ∃ k3, k2 = k3 + 1 := ⟨k2 - 1, by omega⟩
              have hnx : loose s = .inr (qtail k (n2 / 256) k3 (a2.setB (k + k3) (UInt8.ofNat (n2 % 256).toNat))) := by rw [Hlo3.out]; rfl
              have Hnx := Lib.hid hnx
              have hu : (((UInt8.ofNat (n2 % 256).toNat).toNat : Nat) : Int) = n2 % 256 := by
                rw [UInt8.toNat_ofNat_of_lt' (show (n2 % 256).toNat < 256 by omega)]; omega
              have Hu := Lib.hid hu
              have Hset := Lib.hid (adA_setB a2 (show k + k3 < 16 by omega) (UInt8.ofNat (n2 % 256).toNat))
              have q4 := s2.cell (1 + (k + k3))
              rw [Nat.add_comm 1 (k + k3), adA_ip _ (by omega), Nat.add_comm (k + k3) 1] at q4
              have f4 := s2.free (1 + (k + k3))
              have j4 : (k : Int) ≤ (k : Int) + ((k3 + 1 : Nat) : Int) - 1 := by omega
              have j5 : ((k : Int) + ((k3 + 1 : Nat) : Int) - 1) = ((k + k3 : Nat) : Int) := by omega
              rw [j5] at j4 ⊢
              have j6 : ((k + k3 : Nat) : Int) < 16 := by omega
              clear hnx hu j5 h0
              go_wp2
              go_roundw
              case rel =>
                refine ⟨k3, n2 / 256, _, by omega, by omega, by omega, rfl, by first | rfl | (congr 1; omega), Hnx.out, s1.far (by show g2 ≠ g6; omega) _, ?_, s4.setCell (show w.heap.size ≤ g6 by omega) _⟩
                have := s2.set_ (1 + (k + k3)) (.int .u8 (((UInt8.ofNat (n2 % 256).toNat).toNat : Nat) : Int))
                rw [Nat.add_comm 1 (k + k3), Hset.out, Hu.out] at this
                rw [Nat.add_comm 1 (k + k3)]
                exact this
              case measure => simp [intOf]; omega
        · have hno : loose s = .inl 4 := by rw [Hlo2.out, if_neg hnT]
          have Hno := Lib.hid hno
          have j3 : T ≤ n := by omega
          clear hno hnT
          go_wp2_with (first
            | (with_reducible refine wpList_buildL rfl 24 _ rfl built_0 rfl ?_)
            | ((with_reducible refine wpList_storeAd rfl _ _ rfl rfl rfl r1 ?_); intro w5 hB5 hS5))
          exact ret_adE Tryd.results16 rfl rfl hB5 rfl (LoPost.no Hno.out (r4.trans (hS5.below hg2)))
end Go.Proofs.YtbffkddlkfefoaaDoor

/- The walk of QuadBack. -/
namespace Go.Proofs.YtbffkddlkfefoaaDoor
open Go.RowKit
attribute [local go_sem] ba_get ext_take ext_drop ext_any ba_app

theorem qnum_itu (c : UInt8) : qnum (itu c) = some (c.toNat : Int) := by
  have h : ∀ n : Fin 256, qnum (Lib.decDigits n.val) = some (n.val : Int) := by decide +kernel
  rw [itu_dec]
  exact h ⟨c.toNat, c.toNat_lt⟩
theorem qnums_qtx (a : Ad) : qnums (qtx a) = some [((a.b 0).toNat : Int), ((a.b 1).toNat : Int), ((a.b 2).toNat : Int), ((a.b 3).toNat : Int)] := by
  unfold qnums
  rw [spB_qtx]
  simp [qnum_itu]
theorem u8of (c : UInt8) : UInt8.ofNat ((c.toNat : Int)).toNat = c := by simp
theorem u8of2 (c : UInt8) : UInt8.ofNat (((c.toNat : Int)) % 256).toNat = c := by
  have := c.toNat_lt
  rw [show ((c.toNat : Int)) % 256 = (c.toNat : Int) by omega]
  simp
theorem loose_qtx (a : Ad) : loose (qtx a) = .inr (adF a) := by
  have h0 := (a.b 0).toNat_lt
  have h1 := (a.b 1).toNat_lt
  have h2 := (a.b 2).toNat_lt
  have h3 := (a.b 3).toNat_lt
  rw [loose_some (m := 3) (qnums_qtx a) rfl, if_pos, if_pos]
  · show Sum.inr (((((ad4.setB 0 (UInt8.ofNat ((a.b 0).toNat : Int).toNat)).setB 1 (UInt8.ofNat ((a.b 1).toNat : Int).toNat)).setB 2 (UInt8.ofNat ((a.b 2).toNat : Int).toNat)).setB (3 + 0) (UInt8.ofNat (((a.b 3).toNat : Int) % 256).toNat))) = _
    rw [u8of, u8of, u8of, u8of2]
    rfl
  · show ((a.b 3).toNat : Int) < 256
    omega
  · simp
    omega
theorem qtx_F (a : Ad) : qtx a = qtx (adF a) := rfl
theorem qpA_of (a : Ad) : qpA (qtx a) = some (adF a) := by rw [qtx_F]; exact qpA_qtx _ _ _ _
theorem w7l : loose [49, 50, 55, 46, 49] = .inr (adOf 127 0 0 1) := by decide +kernel
theorem w7p : qpA [49, 50, 55, 46, 49] = none := by decide +kernel
theorem w7t : qtx (adOf 127 0 0 1) = [49, 50, 55, 46, 48, 46, 48, 46, 49] := by decide +kernel
theorem q7 (w : World) (ht : Tab w) : Calls Tryd.prog 14 #[.agg (adA (adOf 127 0 0 1))] w (StrPost w [49, 50, 55, 46, 48, 46, 48, 46, 49]) := by
  have := qtext_any (adOf 127 0 0 1) w ht
  rw [w7t] at this
  exact this
set_option maxRecDepth 100000 in
set_option maxHeartbeats 1000000 in
theorem works07_any (w : World) (ht : Tab w) : Calls Tryd.prog 18 #[] w (Good w) := by
  have Ht := Lib.hid ht
  clear ht
  go_enter Tryd.func18, Tryd.ntmps18
  go_wp2_with (first
    | (go_at_call 16; refine (loose_any [49, 50, 55, 46, 49] _ (by simp)).mono ?_; rintro e w1 ⟨rfl, hb1⟩; rw [w7l]; unfold adS)
    | ((with_reducible refine wpList_allocAd (o := ⟨some 1, _, _, _, _, _⟩) rfl rfl ?_); intro g1 w2 hg hB1 hb2 hs; have hg1 : w1.heap.size ≤ g1 := Nat.le_of_eq hg.symm; clear hg hs)
    | ((with_reducible refine wpList_storeAd rfl (.tmp 1) _ rfl rfl rfl hB1 ?_); intro w3 hB3 hS3)
    | (go_at_call 15; refine (qparse_any [49, 50, 55, 46, 49] _ (Ht.out.below (bel_tr hb1 (hb2.trans (hS3.below hg1)))) (by simp)).mono ?_; rintro e w4 ⟨rfl, hb4⟩; rw [w7p]; unfold adE; have hB4 := hB3.bel hb4)
    | ((with_reducible refine wpList_allocAd (o := ⟨some 3, _, _, _, _, _⟩) rfl rfl ?_); intro g3 w5 hg hBx hb5 hs; have hg3 : w4.heap.size ≤ g3 := Nat.le_of_eq hg.symm; have hB5 := hB4.bel hb5; clear hg hs)
    | ((with_reducible refine wpList_storeAd rfl (.tmp 3) _ rfl rfl rfl hBx ?_); intro w6 hB6 hS6))
  have hg13 : g1 ≠ g3 := by have := hB4.lt; omega
  have hB := hB5.stays hS6 hg13
  have hb06 : Below w.heap.size w w6 := bel_tr (bel_tr (bel_tr hb1 (hb2.trans (hS3.below hg1))) hb4) (hb5.trans (hS6.below hg3))
  have hR := hB.rangeAd
  have c0 : w6.cell? ⟨g1, 0, none⟩ = some (.int .i64 4) := by have := hB.cell 0; rw [adA_0] at this; exact this
  have x0 := fun x : BelT w6 => x.cell c0
  clear hB1 hB3 hB4 hB5 hB6 hBx hS3 hS6 hb1 hb2 hb4 hb5 c0
  refine wp_region_bel (by kernel_rfl) (by kernel_rfl) ?_
  repeat (first
    | go_big_quiet_skip
    | (go_big_quiet_want; first
        | ((with_reducible refine quiet_loadAd _ rfl rfl hR (by simp only [Act.put, List.setIfInBounds_toArray, List.set_cons_succ, List.set_cons_zero]; exact rfl) ?_); go_big_quiet_on)
        | (refine quiet_eqlAd _ _ rfl rfl rfl (r := true) (decide_eq_true rfl) (by simp only [Act.put, List.setIfInBounds_toArray, List.set_cons_succ, List.set_cons_zero]; exact rfl) ?_; go_big_quiet_on)
        | (go_big_quiet_op; first | go_big_quiet_on | go_big_quiet_call ((go_at_call 17; refine bel_call (of_any 127 0 0 1 _))) | go_big_quiet_call ((go_at_call 14; refine bel_call (q7 _ (Ht.out.below (bel_tr hb06 (BelT.bel _)))))))))
  refine wpQuiet_nil ?_
  rintro _ ⟨x, rfl⟩
  go_wp2
  go_ret
  exact ⟨rfl, bel_tr hb06 x.bel⟩

theorem ofF (a : Ad) (w : World) : Calls Tryd.prog 17 #[.int .u8 ((a.b 0).toNat : Int), .int .u8 ((a.b 1).toNat : Int), .int .u8 ((a.b 2).toNat : Int), .int .u8 ((a.b 3).toNat : Int)] w (AdPost w (adF a)) := of_any _ _ _ _ w
theorem rofF (a : Ad) (w : World) : Calls Tryd.prog 20 #[.int .i64 ((a.b 0).toNat : Int), .int .i64 ((a.b 1).toNat : Int), .int .i64 ((a.b 2).toNat : Int), .int .i64 ((a.b 3).toNat : Int)] w (AdPost w (adF a)) := rof_any _ _ _ _ w
set_option maxRecDepth 100000 in
set_option maxHeartbeats 2000000 in
theorem quadBack_walk (w : World) (ht : Tab w) (a : Ad) : Calls Tryd.prog 3 #[.agg (adA a)] w (Good w) := by
  have Ht := Lib.hid ht
  have hlen := qtx_len a
  clear ht
  go_enter Tryd.func3, Tryd.ntmps3
  go_wp2_with (first
    | ((with_reducible refine wpList_boxB rfl _ _ rfl rfl ?_); intro g1 w1 hg hB1 hb1 hs; clear hg hs)
    | (with_reducible refine wpList_loadAd rfl (.tmp 1) rfl rfl hB1 ?_)
    | (go_at_call 14; refine (qtext_any a _ (Ht.out.below hb1)).mono ?_; rintro e w2 ⟨rfl, hb2⟩; have hB12 := hB1.bel hb2; have hb02 := bel_tr hb1 hb2)
    | (go_at_call 15; refine (qparse_any (qtx a) _ (Ht.out.below hb02) (by omega)).mono ?_; rintro e w3 ⟨rfl, hb3⟩; rw [qpA_of]; unfold adE; have hB13 := hB12.bel hb3; have hb03 := bel_tr hb02 hb3)
    | ((with_reducible refine wpList_allocAd (o := ⟨some 4, _, _, _, _, _⟩) rfl rfl ?_); intro g4 w4 hg hB4 hb4 hs; have hg4 : w3.heap.size ≤ g4 := Nat.le_of_eq hg.symm; have hB14 := hB13.bel hb4; clear hg hs)
    | ((with_reducible refine wpList_storeAd rfl (.tmp 4) _ rfl rfl rfl hB4 ?_); intro w5 hB45 hS5; have hB15 := hB14.stays hS5 (by have := hB13.lt; omega); have hb05 := bel_tr hb03 (hb4.trans (hS5.below hg4)))
    | (go_at_call 16; refine (loose_any (qtx a) _ (by omega)).mono ?_; rintro e w6 ⟨rfl, hb6⟩; rw [loose_qtx]; unfold adS; have hB16 := hB15.bel hb6; have hB46 := hB45.bel hb6; have hb06 := bel_tr hb05 hb6)
    | ((with_reducible refine wpList_allocAd (o := ⟨some 6, _, _, _, _, _⟩) rfl rfl ?_); intro g6 w7 hg hB6 hb7 hs; have hg6 : w6.heap.size ≤ g6 := Nat.le_of_eq hg.symm; have hB17 := hB16.bel hb7; have hB47 := hB46.bel hb7; clear hg hs)
    | ((with_reducible refine wpList_storeAd rfl (.tmp 6) _ rfl rfl rfl hB6 ?_); intro w8 hB68 hS8; have hB18 := hB17.stays hS8 (by have := hB16.lt; omega); have hB48 := hB47.stays hS8 (by have := hB46.lt; omega); have hb08 := bel_tr hb06 (hb7.trans (hS8.below hg6))
       have c0 := hB18.cell 1
       have c1 := hB18.cell 2
       have c2 := hB18.cell 3
       have c3 := hB18.cell 4
       rw [adA_1] at c0
       rw [adA_2] at c1
       rw [adA_3] at c2
       rw [adA_4] at c3)
    | (go_at_call 17; refine (ofF a _).mono ?_; rintro e w9 ⟨rfl, hb9⟩; have hB19 := hB18.bel hb9; have hB49 := hB48.bel hb9; have hB69 := hB68.bel hb9; have hb09 := bel_tr hb08 hb9)
    | ((with_reducible refine wpList_allocAd (o := ⟨some 8, _, _, _, _, _⟩) rfl rfl ?_); intro g8 w10 hg hB8 hb10 hs; have hg8 : w9.heap.size ≤ g8 := Nat.le_of_eq hg.symm; have hB1a := hB19.bel hb10; have hB4a := hB49.bel hb10; have hB6a := hB69.bel hb10; clear hg hs)
    | ((with_reducible refine wpList_storeAd rfl (.tmp 8) _ rfl rfl rfl hB8 ?_); intro w11 hB8b hS11; have hB1b := hB1a.stays hS11 (by have := hB19.lt; omega); have hB4b := hB4a.stays hS11 (by have := hB49.lt; omega); have hB6b := hB6a.stays hS11 (by have := hB69.lt; omega); have hb11 := bel_tr hb09 (hb10.trans (hS11.below hg8))))
  have R1 := hB1b.rangeAd
  have R4 := hB4b.rangeAd
  have R6 := hB6b.rangeAd
  have R8 : w11.rangeAt g8 0 (adL (adF a)) := hB8b.rangeAd
  have d0 := hB1b.cell 1
  have d1 := hB1b.cell 2
  have d2 := hB1b.cell 3
  have d3 := hB1b.cell 4
  rw [adA_1] at d0
  rw [adA_2] at d1
  rw [adA_3] at d2
  rw [adA_4] at d3
  have l0 := u8lt (a.b 0)
  have l1 := u8lt (a.b 1)
  have l2 := u8lt (a.b 2)
  have l3 := u8lt (a.b 3)
  have x0 := fun x : BelT w11 => x.cell d0
  have x1 := fun x : BelT w11 => x.cell d1
  have x2 := fun x : BelT w11 => x.cell d2
  have x3 := fun x : BelT w11 => x.cell d3
  clear hB1 hB12 hB13 hB14 hB15 hB16 hB17 hB18 hB19 hB1a hB1b hB4 hB45 hB46 hB47 hB48 hB49 hB4a hB4b hB6 hB68 hB69 hB6a hB6b hB8 hB8b hS5 hS8 hS11 c0 c1 c2 c3 d0 d1 d2 d3
  have Hb11 := Lib.hid hb11
  clear hb1 hb2 hb3 hb4 hb6 hb7 hb9 hb10 hb02 hb03 hb05 hb06 hb08 hb09 hb11
  simp only [Act.put, List.setIfInBounds_toArray, List.set_cons_succ, List.set_cons_zero]
  refine wp_region_bel (by kernel_rfl) (by kernel_rfl) ?_
  repeat (first
    | go_big_quiet_skip
    | (go_big_quiet_want; first
        | ((with_reducible refine quiet_loadAd _ rfl rfl R1 (by simp only [Act.put, List.setIfInBounds_toArray, List.set_cons_succ, List.set_cons_zero]; exact rfl) ?_); go_big_quiet_on)
        | ((with_reducible refine quiet_loadAd _ rfl rfl R4 (by simp only [Act.put, List.setIfInBounds_toArray, List.set_cons_succ, List.set_cons_zero]; exact rfl) ?_); go_big_quiet_on)
        | ((with_reducible refine quiet_loadAd _ rfl rfl R6 (by simp only [Act.put, List.setIfInBounds_toArray, List.set_cons_succ, List.set_cons_zero]; exact rfl) ?_); go_big_quiet_on)
        | ((with_reducible refine quiet_loadAd _ rfl rfl R8 (by simp only [Act.put, List.setIfInBounds_toArray, List.set_cons_succ, List.set_cons_zero]; exact rfl) ?_); go_big_quiet_on)
        | (refine quiet_eqlAd _ _ rfl rfl rfl (r := true) (decide_eq_true rfl) (by simp only [Act.put, List.setIfInBounds_toArray, List.set_cons_succ, List.set_cons_zero]; exact rfl) ?_; go_big_quiet_on)
        | (go_big_quiet_op; first | go_big_quiet_on | go_big_quiet_call ((go_at_call 18; refine bel_call (works07_any _ (Ht.out.below (bel_tr Hb11.out (BelT.bel _)))))) | go_big_quiet_call ((go_at_call 19; refine bel_call (rqtext_any a _))) | go_big_quiet_call ((go_at_call 20; refine bel_call (rofF a _))))))
  refine wpQuiet_nil ?_
  rintro _ ⟨x, rfl⟩
  go_wp2
  go_ret
  exact ⟨rfl, bel_tr Hb11.out x.bel⟩
end Go.Proofs.YtbffkddlkfefoaaDoor
